/- Link-cut forests: Meet. No condition. -/
import Derived.Test.YtjpmgekdgpkcfaaHxLctO
import Derived.Test.YtjpmgekdgpkcfaaHxLctQ
namespace Go.Hx
set_option linter.unusedSimpArgs false
set_option linter.unusedVariables false

section
variable {h : Hp} {a b n : Nat} {N : NN} {tr : Int}

/-- The way of b and that of c, both from u, part at z. -/
theorem lMeet_spec (d : FS h a b n N tr) {pa : Nat → Int} {F0 : List (Tr × Int)} (lf : LF n N pa F0) (x y t : Int) (K : Int → Bool → Hp → Prop)
    (hbad : ∀ h' N' pa' F', FS h' a b n N' tr → FrB a b h h' → LF n N' pa' F' → Sa n N N' pa pa' → (¬ ((0 ≤ x ∧ x < (n : Int)) ∧ (0 ≤ y ∧ y < (n : Int)) ∧ (0 ≤ t ∧ t < (n : Int))) ∨ ∃ u v w : Nat, x = u ∧ y = v ∧ t = w ∧ u < n ∧ ¬ (Cn (Ed pa) u v ∧ Cn (Ed pa) u w)) → K 0 false h')
    (hok : ∀ (u v w z : Nat) h' N' pa' F', x = u → y = v → t = w → u < n → v < n → w < n → FS h' a b n N' tr → FrB a b h h' → LF n N' pa' F' → Sa n N N' pa pa' → pa' u = -1 →
      (∃ xs ys zs, chn pa' (-1) (xs ++ z :: ys) ∧ chn pa' (-1) (xs ++ z :: zs) ∧ (xs ++ z :: ys).getLast? = some v ∧ (xs ++ z :: zs).getLast? = some w ∧ (xs ++ z :: ys).head? = some u ∧ (xs ++ z :: ys).Nodup ∧ (xs ++ z :: zs).Nodup ∧ ∀ q, q ∈ zs → q ∉ xs ++ z :: ys) → K z true h') : g_lct_Forest_Meet (some ⟨a, 0, none⟩) x y t h K := by
  unfold g_lct_Forest_Meet
  refine lPath_any d lf x t _ (fun q => cnd_t rfl (hbad h N pa F0 d (FrB.refl _ _ _) lf ⟨fun _ _ => Iff.rfl, fun _ => rfl⟩ (.inl fun g => q ⟨g.1, g.2.2⟩))) fun u w h2 N2 pa2 l2 G2 c hx ht hu hw d2 f2 lf2 sa2 pu2 hc hf rv => cnd_of (fun q => ?_) fun q => ?_
  · have hno : u ∉ (Tr.nd l2 w .nil).seq := fun g => by rw [hc.2 g] at q; cases q
    by_cases gy : 0 ≤ y ∧ y < (n : Int)
    · refine hbad h2 N2 pa2 _ d2 f2 lf2 sa2 (.inr ⟨u, y.toNat, w, hx, by omega, ht, hu, fun g => hno ?_⟩)
      exact lf2.conn pu2 (by simp [Tr.seq]) ((Cn_congr sa2.1 _ _).2 g.2)
    · exact hbad h2 N2 pa2 _ d2 f2 lf2 sa2 (.inl fun g => gy g.2.1)
  have huw : Cn (Ed pa) u w := (Cn_congr sa2.1 _ _).1 (lf2.Cn (hc.1 (by simpa using q)) (by simp [Tr.seq]))
  refine lPath_any d2 lf2 x y _ (fun q => cnd_t rfl (hbad h2 N2 pa2 _ d2 f2 lf2 sa2 (.inl fun g => q ⟨g.1, g.2.1⟩))) fun u' v h4 N4 pa4 l4 G4 c4 hx' hy hu' hv d4 f4 lf4 sa4 pu4 hc4 hf4 rv4 => ?_
  obtain rfl : u = u' := by omega
  have sa : Sa n N N4 pa pa4 := ⟨fun p q => (sa4.1 p q).trans (sa2.1 p q), fun w => (sa4.2 w).trans (sa2.2 w)⟩
  refine cnd_of (fun q => ?_) fun q => ?_
  · have hno : u ∉ (Tr.nd l4 v .nil).seq := fun g => by rw [hc4.2 g] at q; cases q
    refine hbad h4 N4 pa4 _ d4 (f2.trans f4) lf4 sa (.inr ⟨u, v, w, hx, hy, ht, hu, fun g => hno ?_⟩)
    exact lf4.conn pu4 (by simp [Tr.seq]) ((Cn_congr sa.1 _ _).2 g.1)
  have hu4 := hc4.1 (show c4 = true by simpa using q)
  obtain ⟨us, hus⟩ := hf4 (by simpa using q)
  rw [ht]
  refine access_spec d4 lf4 hw _ fun h6 N6 z l6 G6 d6 f6 lf6 rv6 ky6 old6 mt => ?_
  obtain ⟨t0, xs, ys, zs, zz, rfl, e1, e2, e3, e4⟩ := mt
  have hu6 : u ∈ (Tr.nd l6 w .nil).seq := lf6.conn pu4 (by simp [Tr.seq]) ((Cn_congr sa.1 _ _).2 huw)
  obtain ⟨_, vs, hvs⟩ := chn_first (lf6.pc _ (List.mem_cons_self ..)) hu6 pu4
  simp only at hvs
  have hd0 : u ∈ t0.seq := by
    rw [e2]
    rw [hvs] at e3
    cases xs with
    | nil => simp only [List.nil_append, List.cons.injEq] at e3; simp [e3.1]
    | cons p xs => simp only [List.cons_append, List.cons.injEq] at e3; simp [e3.1]
  have ht0 : t0 = .nd l4 v .nil := by
    rcases List.mem_cons.1 e1 with e | e
    · simp only [Prod.mk.injEq] at e; exact e.1
    · exact (lf4.disj e u hu4 hd0).elim
  subst ht0
  have gl : ∀ (l : Tr) (k : Nat), (Tr.nd l k .nil).seq.getLast? = some k := fun l k => by simp [Tr.seq]
  refine hok u v w zz h6 N6 pa4 _ hx hy ht hu hv hw d6 ((f2.trans f4).trans f6) lf6 ⟨sa.1, fun p => (ky6 p).trans (sa.2 p)⟩ pu4 ⟨xs, ys, zs, ?_, ?_, ?_, ?_, ?_, ?_, ?_, fun p hp => ?_⟩
  · rw [← e2]; exact lf4.pc _ (List.mem_cons_self ..)
  · rw [← e3]; exact lf6.pc _ (List.mem_cons_self ..)
  · rw [← e2]; exact gl _ _
  · rw [← e3]; exact gl _ _
  · rw [← e2, hus]; rfl
  · rw [← e2]; exact lf4.tt.nd
  · rw [← e3]; exact lf6.tt.nd
  · rw [← e2]; exact e4 p hp
end

end Go.Hx
