/- Link-cut forests: the law on nil forests and zero ones. No condition. -/
import Derived.Test.YtjpmgekdgpkcfaaHxLctWk
namespace Go.Hx
set_option linter.unusedSimpArgs false
set_option linter.unusedVariables false

/-- No forest. -/
def NilF (p : Option Addr) (h : Hp) : Prop := p = none ∨ ∃ A, p = some ⟨A, 0, none⟩ ∧ h.blk A = some (.cells [.bool false, .slice none 0 0, .int .i64 0])

section
variable {p : Option Addr} {h : Hp}

theorem nHas (n : NilF p h) (v : Int) (K : Bool → Hp → Prop) (hK : K false h) : g_lct_Forest_has p v h K := by
  unfold g_lct_Forest_has
  rcases n with rfl | ⟨A, rfl, hA⟩
  · exact cnd_f rfl hK
  · refine cnd_t rfl (cnd_of (fun c => nn_of ?_) fun _ => hK)
    simp only [add_mk, Nat.zero_add]
    refine ldS_of (p := none) (n := 0) (c := 0) (by rw [cell_own hA]; rfl) ?_
    have : decide (v < Int.ofNat 0) = false := by simp only [decide_eq_true_eq, decide_eq_false_iff_not, Int.ofNat_eq_natCast] at c ⊢; omega
    simp only [this]; exact hK

theorem nCheck (n : NilF p h) (v w : Int) (K : Int → Hp → Prop) (hK : K 1 h) : g_lct_Forest_check p v w h K := by
  unfold g_lct_Forest_check
  rcases n with rfl | ⟨A, rfl, hA⟩
  · exact cnd_t rfl hK
  · refine cnd_f rfl (nn_of ?_)
    simp only [add_mk, Nat.zero_add]
    exact ldB_of (v := false) (by rw [cell_own hA]; rfl) (cnd_t rfl hK)

theorem nPath (n : NilF p h) (v w : Int) (K : Bool → Hp → Prop) (hK : K false h) : g_lct_Forest_path p v w h K := by
  unfold g_lct_Forest_path
  exact nHas n _ _ (cnd_t rfl hK)

theorem nTrees (n : NilF p h) (K : Int → Hp → Prop) (hK : K 0 h) : g_lct_Forest_Trees p h K := by
  unfold g_lct_Forest_Trees
  rcases n with rfl | ⟨A, rfl, hA⟩
  · exact cnd_t rfl hK
  · refine cnd_f rfl (nn_of ?_)
    simp only [add_mk, Nat.zero_add]
    exact ldI_of (by rw [cell_own hA]; rfl) hK

theorem nCopy (n : NilF p h) (K : Option Addr → Hp → Prop) (hK : K none h) : g_lct_Forest_Copy p h K := by
  unfold g_lct_Forest_Copy
  rcases n with rfl | ⟨A, rfl, hA⟩
  · exact cnd_t rfl hK
  · refine cnd_f rfl (nn_of ?_)
    simp only [add_mk, Nat.zero_add]
    exact ldB_of (v := false) (by rw [cell_own hA]; rfl) (cnd_t rfl hK)
theorem nSet (n : NilF p h) (v k : Int) (K : Int → Hp → Prop) (hK : K 1 h) : g_lct_Forest_Set p v k h K := by
  unfold g_lct_Forest_Set; exact nCheck n _ _ _ (cnd_t rfl hK)
theorem nLink (n : NilF p h) (v w : Int) (K : Int → Hp → Prop) (hK : K 1 h) : g_lct_Forest_Link p v w h K := by
  unfold g_lct_Forest_Link; exact nCheck n _ _ _ (cnd_t rfl hK)
theorem nCut (n : NilF p h) (v w : Int) (K : Int → Hp → Prop) (hK : K 1 h) : g_lct_Forest_Cut p v w h K := by
  unfold g_lct_Forest_Cut; exact nCheck n _ _ _ (cnd_t rfl hK)
theorem nMin (n : NilF p h) (v w : Int) (K : Int → Bool → Hp → Prop) (hK : K 0 false h) : g_lct_Forest_Min p v w h K := by
  unfold g_lct_Forest_Min; exact nPath n _ _ _ (cnd_t rfl hK)
theorem nMeet (n : NilF p h) (v w u : Int) (K : Int → Bool → Hp → Prop) (hK : K 0 false h) : g_lct_Forest_Meet p v w u h K := by
  unfold g_lct_Forest_Meet; exact nPath n _ _ _ (cnd_t rfl hK)
theorem nKey (n : NilF p h) (v : Int) (K : Int → Hp → Prop) (hK : K 0 h) : g_lct_Forest_Key p v h K := by
  unfold g_lct_Forest_Key; exact nHas n _ _ (cnd_t rfl hK)
theorem nConn (n : NilF p h) (v w : Int) (K : Bool → Hp → Prop) (hK : K false h) : g_lct_Forest_Connected p v w h K := by
  unfold g_lct_Forest_Connected; exact nPath n _ _ _ hK
theorem nSize (n : NilF p h) (v : Int) (K : Int → Hp → Prop) (hK : K 0 h) : g_lct_Forest_Size p v h K := by
  unfold g_lct_Forest_Size; exact nHas n _ _ (cnd_t rfl hK)
theorem nPathL (n : NilF p h) (v w : Int) (K : Sl → Hp → Prop) (hK : K ⟨none, 0, 0⟩ h) : g_lct_Forest_Path p v w h K := by
  unfold g_lct_Forest_Path; exact nPath n _ _ _ (cnd_t rfl hK)
theorem nDist (n : NilF p h) (v w : Int) (K : Int → Hp → Prop) (hK : K (-1) h) : g_lct_Forest_Dist p v w h K := by
  unfold g_lct_Forest_Dist; exact nPath n _ _ _ (cnd_t rfl hK)
end

theorem g_law12_LctNil_true (x y z k : Int) (h : Hp) (K : Bool → Hp → Prop) (_ : -9223372036854775808 ≤ x ∧ x ≤ 9223372036854775807) (_ : -9223372036854775808 ≤ y ∧ y ≤ 9223372036854775807)
    (_ : -9223372036854775808 ≤ z ∧ z ≤ 9223372036854775807) (_ : -9223372036854775808 ≤ k ∧ k ≤ 9223372036854775807) (hK : ∀ h', K true h') : g_law12_LctNil x y z k h K := by
  unfold g_law12_LctNil
  refine alo_of fun h2 z2 b2 k2 => alo_of fun h4 z4 b4 k4 => ?_
  refine for_of 2 (fun j (st : Int × Unit) g => st.1 = (j : Int) ∧ g = h4) ?_ ⟨rfl, rfl⟩
  rintro j Kr ⟨st, _⟩ g hj ⟨rfl, rfl⟩ hKr
  refine cnd_of (fun c => ?_) fun _ => works_spec _ _ fun h' _ => hK h'
  simp only [decide_eq_true_eq, Int.ofNat_eq_natCast] at c
  have hj2 : j < 2 := by omega
  refine ix_of (by omega) (by omega) ?_
  simp only [add_mk, Nat.zero_add, Int.toNat_natCast, Nat.mul_one]
  obtain ⟨p, hp, np⟩ : ∃ p, g.cell ⟨h2.size, j, none⟩ = some (.pointer p) ∧ NilF p g := by
    rw [cell_own b4]
    obtain rfl | rfl : j = 0 ∨ j = 1 := by omega
    · exact ⟨none, rfl, .inl rfl⟩
    · exact ⟨_, rfl, .inr ⟨_, rfl, by rw [k4 _ (by omega), b2]⟩⟩
  refine ldP_of hp (nSet np _ _ _ (cnd_f rfl (nLink np _ _ _ (cnd_f rfl (nCut np _ _ _ (cnd_f rfl (nMin np _ _ _ (nMeet np _ _ _ _ (cnd_f rfl (cnd_f rfl (cnd_f rfl (cnd_f rfl (nKey np _ _ (cnd_f rfl (nConn np _ _ _ (cnd_f rfl (nSize np _ _ (cnd_f rfl
    (nTrees np _ (cnd_f rfl (nPathL np _ _ _ (cnd_f rfl (nDist np _ _ _ (cnd_f rfl (nCopy np _ (cnd_f rfl (hKr hj2 _ _ ⟨?_, rfl⟩)))))))))))))))))))))))))))
  simp only; rw [w64, w64_eq (by omega) (by omega)]; omega

end Go.Hx
