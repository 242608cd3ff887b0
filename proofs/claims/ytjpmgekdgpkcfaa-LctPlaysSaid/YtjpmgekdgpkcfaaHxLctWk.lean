/- The example of the chapter on link-cut forests. No condition. -/
import Derived.Test.YtjpmgekdgpkcfaaHxLctSt
namespace Go.Hx
set_option linter.unusedSimpArgs false
set_option linter.unusedVariables false

theorem Fr.thenB {B a b : Nat} {h h' h'' : Hp} (f : Fr B h h') (g : FrB a b h' h'') (hB : B ≤ h.size) (ha : B ≤ a) (hb : B ≤ b) : Fr B h h'' :=
  ⟨Nat.le_trans f.size g.size, fun c hc => (g.blk c (by have := f.size; omega) (by omega) (by omega)).trans (f.blk c hc)⟩

theorem nocn {L : Es} {u v : Nat} (R : Nat → Prop) (hR : ∀ p q, (p, q) ∈ L → (R p ↔ R q)) (hu : R u) (hv : ¬ R v) : ¬ Cn (eL L) u v := fun c => hv ((c.const R fun p q e => by
  rcases e with e | e
  · exact hR p q e
  · exact (hR q p e).symm).1 hu)

theorem lk_ok {L : Es} {n : Nat} {x y : Int} {u v : Nat} {r : Int} {L' : Es} (k : lkI L n x y r L') (hx : x = u) (hy : y = v) (hu : u < n) (hv : v < n) (huv : u ≠ v) (hc : ¬ Cn (eL L) u v) : r = 0 ∧ L' = L ++ [(u, v)] := by
  rcases k with ⟨_, _, k⟩ | ⟨_, _, _, k⟩ | ⟨u', v', h1, h2, _, _, _, k⟩
  · exact absurd ⟨⟨by omega, by omega⟩, by omega, by omega⟩ k
  · omega
  · obtain rfl : u = u' := by omega
    obtain rfl : v = v' := by omega
    rcases k with ⟨_, _, k⟩ | ⟨k1, k2, _⟩
    · exact absurd k hc
    · exact ⟨k1, k2⟩
theorem lk_have {L : Es} {n : Nat} {x y : Int} {u v : Nat} {r : Int} {L' : Es} (k : lkI L n x y r L') (hx : x = u) (hy : y = v) (hu : u < n) (hv : v < n) (huv : u ≠ v) (hc : Cn (eL L) u v) : r = 6 ∧ L' = L := by
  rcases k with ⟨_, _, k⟩ | ⟨_, _, _, k⟩ | ⟨u', v', h1, h2, _, _, _, k⟩
  · exact absurd ⟨⟨by omega, by omega⟩, by omega, by omega⟩ k
  · omega
  · obtain rfl : u = u' := by omega
    obtain rfl : v = v' := by omega
    rcases k with ⟨k1, k2, _⟩ | ⟨_, _, k⟩
    · exact ⟨k1, k2⟩
    · exact absurd hc k

abbrev LW : Es := [(0, 1), (1, 2), (1, 3)]
theorem eW {p q : Nat} (h : (p, q) ∈ LW) : (p = 0 ∧ q = 1) ∨ (p = 1 ∧ q = 2) ∨ (p = 1 ∧ q = 3) := by simpa [LW] using h
theorem sW02 : SP (eL LW) 0 2 [0, 1, 2] := ⟨rfl, rfl, ⟨.inl (by simp), .inl (by simp), trivial, trivial⟩, by decide⟩
theorem sW03 : SP (eL LW) 0 3 [0, 1, 3] := ⟨rfl, rfl, ⟨.inl (by simp), .inl (by simp), trivial, trivial⟩, by decide⟩
theorem sW23 : SP (eL LW) 2 3 [2, 1, 3] := ⟨rfl, rfl, ⟨.inr (by simp), .inl (by simp), trivial, trivial⟩, by decide⟩

theorem works_spec (h : Hp) (K : Bool → Hp → Prop) (hK : ∀ h', Fr h.size h h' → K true h') : g_law12_works h K := by
  unfold g_law12_works
  refine T_new 6 h _ (fun q => absurd ⟨by omega, by omega⟩ q) fun m hm _ h3 a b d f ha hb => ?_
  obtain rfl : m = 6 := by omega
  refine cnd_f rfl (cnd_f rfl ?_)
  refine T_link d (by simp) 0 1 _ fun r1 h5 L1 d1 f1 k1 => ?_
  obtain ⟨rfl, rfl⟩ := lk_ok (u := 0) (v := 1) k1 rfl rfl (by omega) (by omega) (by omega) (nocn (fun w => w = 0) (fun p q e => by cases e) rfl (by omega))
  refine T_link d1 (by simp) 1 2 _ fun r2 h7 L2 d2 f2 k2 => ?_
  obtain ⟨rfl, rfl⟩ := lk_ok (u := 1) (v := 2) k2 rfl rfl (by omega) (by omega) (by omega) (nocn (fun w => w ≤ 1) (fun p q e => by simp at e; omega) (by omega) (by omega))
  refine T_link d2 (by simp) 1 3 _ fun r3 h9 L3 d3 f3 k3 => ?_
  obtain ⟨rfl, rfl⟩ := lk_ok (u := 1) (v := 3) k3 rfl rfl (by omega) (by omega) (by omega) (nocn (fun w => w ≤ 2) (fun p q e => by simp at e; omega) (by omega) (by omega))
  have d3 : LT h9 a b 6 LW (fun _ => 0) := d3
  refine T_link d3 (by simp) 2 0 _ fun r4 h11 L4 d4 f4 k4 => ?_
  obtain ⟨rfl, rfl⟩ := lk_have (u := 2) (v := 0) k4 rfl rfl (by omega) (by omega) (by omega) sW02.Cn.symm
  have fo := d4.fo
  refine T_meet d4 0 2 3 _ fun m c h14 d5 f5 k5 => ?_
  obtain ⟨rfl, rfl⟩ : m = 1 ∧ c = true := by
    rcases k5 with ⟨_, _, k⟩ | ⟨u, v, w, z, h1, h2, h3, _, _, _, mt, rfl, hc⟩
    · exact absurd ⟨⟨0, 2, rfl, rfl, by omega, by omega, sW02.Cn⟩, 0, 3, rfl, rfl, by omega, by omega, sW03.Cn⟩ k
    · obtain rfl : u = 0 := by omega
      obtain rfl : v = 2 := by omega
      obtain rfl : w = 3 := by omega
      have : z = 1 := fo.meet mt ⟨_, _, _, sW02, sW23, sW03, by simp, by simp, by simp⟩
      exact ⟨by omega, hc⟩
  refine cnd_t rfl (cnd_t rfl (cnd_t rfl (cnd_t rfl (cnd_t rfl (cnd_t rfl ?_)))))
  refine T_dist d5 2 3 _ fun h16 p d6 f6 k6 => ?_
  have hp := k6.uniq fo (.inr ⟨2, 3, rfl, rfl, by omega, by omega, sW23⟩)
  subst hp
  refine cnd_t rfl (T_size d6 3 _ fun r h18 d7 f7 k7 => ?_)
  obtain rfl : r = 4 := by
    rcases k7 with ⟨k, _⟩ | ⟨v, M, hv, _, nd, hM, rfl⟩
    · exact absurd ⟨by omega, by omega⟩ k
    · obtain rfl : v = 3 := by omega
      have : M.length = [0, 1, 2, 3].length := nodup_eq nd (by decide) fun z => by
        rw [hM]
        simp only [List.mem_cons, List.not_mem_nil, or_false]
        constructor
        · rintro ⟨_, c⟩
          have := (c.const (fun w => w ≤ 3) fun p q e => by
            rcases e with e | e <;> have := eW e <;> omega).1 (by omega)
          omega
        · rintro (rfl | rfl | rfl | rfl)
          · exact ⟨by omega, sW03.Cn.symm⟩
          · exact ⟨by omega, Cn.back (.inl (by simp))⟩
          · exact ⟨by omega, sW23.Cn.symm⟩
          · exact ⟨by omega, .refl _⟩
      rw [this]; rfl
  refine cnd_t rfl (T_trees d7 _ ?_)
  exact hK h18 ((((((((f.thenB f1 (Nat.le_refl _) ha hb).thenB f2 (Nat.le_refl _) ha hb).thenB f3 (Nat.le_refl _) ha hb).thenB f4 (Nat.le_refl _) ha hb).thenB f5 (Nat.le_refl _) ha hb).thenB f6 (Nat.le_refl _) ha hb).thenB f7 (Nat.le_refl _) ha hb))

end Go.Hx
