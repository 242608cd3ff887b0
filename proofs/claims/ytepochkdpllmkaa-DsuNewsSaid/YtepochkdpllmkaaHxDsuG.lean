/- Sets that are nil or zero: the law, over the abstract heap. No condition. -/
import Derived.Test.YtepochkdpllmkaaHxDsuC
namespace Go.Hx

/-- Nil, or a zero one. -/
def NilS (h : Hp) (p : Option Addr) : Prop :=
  p = none ∨ ∃ b, p = some ⟨b, 0, none⟩ ∧ h.blk b = some (.cells [.bool false, .slice none 0 0, .slice none 0 0, .slice none 0 0, .int .i64 0])

section
variable {h : Hp} {p : Option Addr} (d : NilS h p)
include d

theorem nil_has (a : Int) (K : Bool → Hp → Prop) (hK : K false h) : g_dsu_Sets_has p a h K := by
  unfold g_dsu_Sets_has
  obtain rfl | ⟨b, rfl, hb⟩ := d
  · exact cnd_f rfl hK
  · refine cnd_t rfl (cnd_of (fun c => nn_of ?_) fun _ => hK)
    rw [add_mk]
    refine ldS_of (by rw [cell_own hb]; rfl) ?_
    simp only [decide_eq_true_eq] at c
    rw [decide_eq_false (by simp; omega)]; exact hK

theorem nil_Union (a b : Int) (K : Bool → Int → Hp → Prop) (hK : K false 1 h) : g_dsu_Sets_Union p a b h K := by
  unfold g_dsu_Sets_Union
  obtain rfl | ⟨b, rfl, hb⟩ := d
  · exact cnd_t rfl hK
  · refine cnd_f rfl (nn_of ?_)
    rw [add_mk]
    exact ldB_of (by rw [cell_own hb]; rfl) (cnd_t rfl hK)

theorem nil_Least (a : Int) (K : Int → Int → Hp → Prop) (hK : K 0 1 h) : g_dsu_Sets_Least p a h K := by
  unfold g_dsu_Sets_Least
  obtain rfl | ⟨b, rfl, hb⟩ := d
  · exact cnd_t rfl hK
  · refine cnd_f rfl (nn_of ?_)
    rw [add_mk]
    exact ldB_of (by rw [cell_own hb]; rfl) (cnd_t rfl hK)

theorem nil_Same (a b : Int) (K : Bool → Hp → Prop) (hK : K false h) : g_dsu_Sets_Same p a b h K := by
  unfold g_dsu_Sets_Same
  exact nil_has d _ _ (cnd_f rfl hK)

theorem nil_Size (a : Int) (K : Int → Hp → Prop) (hK : K 0 h) : g_dsu_Sets_Size p a h K := by
  unfold g_dsu_Sets_Size
  exact nil_has d _ _ (cnd_t rfl hK)

theorem nil_Count (K : Int → Hp → Prop) (hK : K 0 h) : g_dsu_Sets_Count p h K := by
  unfold g_dsu_Sets_Count
  obtain rfl | ⟨b, rfl, hb⟩ := d
  · exact cnd_t rfl hK
  · refine cnd_f rfl (nn_of ?_)
    rw [add_mk]
    exact ldI_of (by rw [cell_own hb]; rfl) hK

theorem nil_Len (K : Int → Hp → Prop) (hK : K 0 h) : g_dsu_Sets_Len p h K := by
  unfold g_dsu_Sets_Len
  obtain rfl | ⟨b, rfl, hb⟩ := d
  · exact cnd_t rfl hK
  · refine cnd_f rfl (nn_of ?_)
    rw [add_mk]
    exact ldS_of (by rw [cell_own hb]; rfl) hK

theorem nil_Labels (K : Sl → Hp → Prop) (hK : K ⟨none, 0, 0⟩ h) : g_dsu_Sets_Labels p h K := by
  unfold g_dsu_Sets_Labels
  exact nil_Len d _ (cnd_t rfl hK)

theorem nil_Groups (K : Sl → Hp → Prop) (hK : K ⟨none, 0, 0⟩ h) : g_dsu_Sets_Groups p h K := by
  unfold g_dsu_Sets_Groups
  exact nil_Len d _ (cnd_t rfl hK)

theorem nil_Copy (K : Option Addr → Hp → Prop) (hK : K none h) : g_dsu_Sets_Copy p h K := by
  unfold g_dsu_Sets_Copy
  obtain rfl | ⟨b, rfl, hb⟩ := d
  · exact cnd_t rfl hK
  · refine cnd_f rfl (nn_of ?_)
    rw [add_mk]
    exact ldB_of (by rw [cell_own hb]; rfl) (cnd_t rfl hK)
end

theorem g_law08_DsuNil_true (a b : Int) (h : Hp) (K : Bool → Hp → Prop) (_ : -9223372036854775808 ≤ a ∧ a ≤ 9223372036854775807) (_ : -9223372036854775808 ≤ b ∧ b ≤ 9223372036854775807) (hK : ∀ h', K true h') : g_law08_DsuNil a b h K := by
  unfold g_law08_DsuNil
  refine alo_of fun h2 z2 b2 k2 => alo_of fun h4 z4 b4 k4 => ?_
  have b2' : h4.blk h.size = some (.cells [.bool false, .slice none 0 0, .slice none 0 0, .slice none 0 0, .int .i64 0]) := by rw [k4 _ (by omega), b2]
  refine for_of 2 (fun i t H => t.1 = (i : Int) ∧ H = h4) ?_ ⟨rfl, rfl⟩
  rintro i K1 ⟨t, u⟩ H hi ⟨rfl, rfl⟩ hK1
  simp only
  refine cnd_of (fun c => ?_) fun c => works08_spec _ _ fun h' _ => hK h'
  simp only [decide_eq_true_eq, Int.ofNat_eq_natCast] at c
  refine ix_of (by omega) (by omega) ?_
  have hp : ∃ p, H.cell (Addr.add ⟨h2.size, 0, none⟩ (Int.toNat (i : Int) * 1)) = some (.pointer p) ∧ NilS H p := by
    rw [add_mk, cell_own b4]
    rcases (show i = 0 ∨ i = 1 by omega) with rfl | rfl
    · exact ⟨none, rfl, .inl rfl⟩
    · exact ⟨some ⟨h.size, 0, none⟩, rfl, .inr ⟨_, rfl, b2'⟩⟩
  obtain ⟨p, hc, d⟩ := hp
  refine ldP_of hc (nil_Union d _ _ _ (nil_Least d _ _ (cnd_f rfl (cnd_f rfl (cnd_f rfl (cnd_f rfl (nil_Same d _ _ _ (cnd_f rfl (nil_Size d _ _ (cnd_f rfl (nil_Count d _ (cnd_f rfl (nil_Len d _ (cnd_f rfl
    (nil_Labels d _ (cnd_f rfl (nil_Groups d _ (cnd_f rfl (nil_Copy d _ (cnd_f rfl (hK1 (by omega) _ _ ⟨?_, rfl⟩)))))))))))))))))))))
  show w64 ((i : Int) + 1) = ((i + 1 : Nat) : Int)
  rw [w64, w64_eq (by omega) (by omega)]; omega

end Go.Hx
