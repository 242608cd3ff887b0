/- The library's iterator over a slice from its end. No condition. -/
import Derived.Test.YtjpmgekdgpkcfaaHxDefs
namespace Go.Hx
set_option linter.unusedSimpArgs false
set_option linter.unusedVariables false

theorem backward_spec {Y : YT} {l : Nat} {c : Addr} {s : Sl} {M : List Int} (hM : M.length < 2 ^ 40) (I : Nat → Hp → Prop) {h : Hp} {K : Hp → Prop} (hs : s.n = M.length)
    (hb : ∀ k h, I k h → h.cell c = some (.slice s.a s.n s.c) ∧ Rd h 1 s (ints M))
    (step : ∀ k h K, k < M.length → I k h → (∀ h', I (k + 1) h' → K true h') →
      Y [.func (.yield l) #[] #[], .int .i64 ((M.length - 1 - k : Nat) : Int), .int .i64 (M.getD (M.length - 1 - k) 0)] h K)
    (hK : ∀ h', I M.length h' → K h') (h0 : I 0 h) : g_slices_Backward_f1_int Y l c h K := by
  unfold g_slices_Backward_f1_int
  refine ldS_of (hb 0 h h0).1 ?_
  refine for_of M.length (fun k (t : Int × Unit) h => t.1 = (M.length : Int) - 1 - k ∧ I k h) ?_ ⟨?_, h0⟩
  · rintro k K1 ⟨t, u⟩ h1 hk ⟨rfl, hI⟩ hK1
    obtain ⟨b1, b2⟩ := hb k h1 hI
    refine cnd_of (fun c => ?_) fun c => ?_
    · simp only [decide_eq_true_eq] at c
      have hk' : k < M.length := by omega
      have e : (M.length : Int) - 1 - k = ((M.length - 1 - k : Nat) : Int) := by omega
      simp only [e]
      refine ldS_of b1 (ix_ld1 b2 (by omega) (by simp only; omega) rfl ?_)
      rw [show Int.toNat ((M.length - 1 - k : Nat) : Int) = M.length - 1 - k from rfl]
      refine step k h1 _ hk' hI fun h' hI' => cnd_f rfl (hK1 hk' _ _ ⟨?_, hI'⟩)
      simp only
      rw [w64, w64_eq (by omega) (by omega)]
      omega
    · simp only [decide_eq_false_iff_not] at c
      have : k = M.length := by omega
      subst this
      exact hK h1 hI
  · simp only [hs]
    rw [w64, w64_eq (by simp only [Int.ofNat_eq_natCast]; omega) (by simp only [Int.ofNat_eq_natCast]; omega)]
    simp only [Int.ofNat_eq_natCast]
    omega

end Go.Hx
