/- A graph and that of the document. No condition. -/
import Derived.Test.YthohhnnjpaepnaaHxGrX
import Derived.Test.YthohhnnjpaepnaaHxGrI
namespace Go.Hx
set_option linter.unusedSimpArgs false
set_option linter.unusedVariables false

theorem small_spec (n : Int) (s : Sl) (h : Hp) (K : Bool → Hp → Prop) (hK : ∀ b : Bool, (b = true → s.n ≤ 150) → K b h) : g_law13_Small n s h K := by
  unfold g_law13_Small
  refine cnd_of (fun c => hK _ fun q => ?_) fun c => cnd_of (fun c => hK _ fun q => ?_) fun c => hK _ fun q => by cases q
  all_goals simp only [decide_eq_true_eq, Int.ofNat_eq_natCast] at q; omega

theorem stc3 {g : Hp} {b k : Nat} {xs : List Value} {x y z : Value} {K : Hp → Prop} (hb : g.blk b = some (.cells xs)) (hk : k + 2 < xs.length) (H : ∀ g', g'.size = g.size → (∃ xs', g'.blk b = some (.cells xs') ∧ xs'.length = xs.length) → (∀ c, c ≠ b → g'.blk c = g.blk c) → K g') :
    stc g ⟨b, k, none⟩ x fun g => stc g ⟨b, k + 1, none⟩ y fun g => stc g ⟨b, k + 2, none⟩ z fun g => K g := by
  refine stc_of hb (by omega) fun g1 z1 b1 k1 => stc_of b1 (by rw [List.length_set]; omega) fun g2 z2 b2 k2 => stc_of b2 (by rw [List.length_set, List.length_set]; omega) fun g3 z3 b3 k3 => H g3 (by omega) ⟨_, b3, by simp⟩ fun c hc => by rw [k3 _ hc, k2 _ hc, k1 _ hc]

set_option maxHeartbeats 1000000 in
theorem both_spec (n : Int) (s : Sl) (M : List Int) (h : Hp) (hr : Rd h 3 s (ints M)) (hs : s.n ≤ 2 ^ 30) (K : Option Addr → Option Addr → Bool → Bool → Hp → Prop)
    (hbad : ∀ h', ¬ GOk n s.n M → Fr h.size h h' → K none none false true h')
    (hok : ∀ (N : Nat) h' o a e B, n = N → GS h' o N s.n M → RG h' a e N s.n M B → h.size ≤ o.lo → h.size ≤ B → Fr h.size h h' → K (some ⟨o.a, 0, none⟩) (some ⟨a, 0, none⟩) true true h') : g_law13_both n s h K := by
  unfold g_law13_both
  refine alo_of fun h2 z2 b2 k2 => ?_
  have f2 : Fr h.size h h2 := ⟨by omega, k2⟩
  have L2 : Lst h2 3 ⟨some ⟨h.size, 0, none⟩, 0, 0⟩ [] h.size := ⟨by simp, Nat.le_refl _, .inr ⟨h.size, [], rfl, Nat.le_refl _, by omega, b2, rfl⟩⟩
  refine app_lst L2 f2.size (hr.fr f2).1 (ints_one _) rfl (by simp only; omega) (by simp only; omega) fun s3 h4 l4 n4 z4 f4 _ _ => ?_
  simp only [List.nil_append, Nat.zero_add] at l4 n4
  -- the zeros
  have zeros : ∀ (h12 : Hp) (Kz : Hp → Prop), h4.size ≤ h12.size → (∀ y, y < h4.size → h12.blk y = h4.blk y) → (∀ g, g.size = h12.size → (∀ y, h4.size ≤ y → g.blk y = h12.blk y) → (∀ y, y < h.size → g.blk y = h.blk y) → Kz g) →
      loopP (fun (K17 : (Int × Unit) → Hp → Prop) (t18 : (Int × Unit)) (h19 : Hp) =>
        cnd (decide (t18.1 < (Int.ofNat s3.n)))
        (ix s3.a s3.n t18.1 fun a20 =>
          stc h19 ((a20.add (Int.toNat t18.1 * 3)).add 0) (.int .i64 0) fun h21 =>
          stc h21 ((a20.add (Int.toNat t18.1 * 3)).add 1) (.int .i64 0) fun h22 =>
          stc h22 ((a20.add (Int.toNat t18.1 * 3)).add 2) (.int .i64 0) fun h23 =>
          K17 ((w64 (t18.1 + 1)), ()) h23)
        (Kz h19))
      (0, ()) h12 := fun h12 Kz hz hk H => by
    have fr0 : ∀ y, y < h.size → h12.blk y = h.blk y := fun y hy => by rw [hk y (by omega), f4.blk y (by omega), k2 y hy]
    rcases l4.2.2 with ⟨e1, e2⟩ | ⟨b, sp, ha, hb1, hb2, hb3, hb4⟩
    · refine loop_of (fun _ (t : Int × Unit) g => t.1 = 0 ∧ g = h12) ?_ (n := 0) ⟨rfl, rfl⟩
      rintro q K17 ⟨st, _⟩ g ⟨rfl, rfl⟩ hKr
      refine cnd_f (by rw [e1]; rfl) (H g rfl (fun _ _ => rfl) fr0)
    · refine for_of s3.n (fun i (t : Int × Unit) g => t.1 = (i : Int) ∧ g.size = h12.size ∧ (∃ xs, g.blk b = some (.cells xs) ∧ s3.n * 3 ≤ xs.length) ∧ ∀ c, c ≠ b → g.blk c = h12.blk c) ?_ ⟨rfl, rfl, ⟨_, (hk b hb2).trans hb3, by rw [List.length_append, ← l4.1]; omega⟩, fun _ _ => rfl⟩
      rintro i K17 ⟨st, _⟩ g hi ⟨rfl, zg, ⟨xs, hx, hxl⟩, kg⟩ hKr
      refine cnd_of (fun c => ?_) fun c => ?_
      · simp only [decide_eq_true_eq, Int.ofNat_eq_natCast] at c
        rw [ha]
        refine ix_of (by omega) (by omega) ?_
        simp only [add_mk, Nat.zero_add, Nat.add_zero, Int.toNat_natCast]
        refine stc3 hx (by omega) fun g' z' ⟨xs', b', l'⟩ k' => hKr (by omega) _ _ ⟨?_, by omega, ⟨xs', b', by omega⟩, fun c hc => by rw [k' c hc, kg c hc]⟩
        simp only; rw [w64, w64s (by omega)]
      · exact H g zg (fun y hy => kg y (by omega)) fun y hy => by rw [kg y (by omega), fr0 y hy]
  have f04 : Fr h.size h h4 := ⟨by omega, fun y hy => by rw [f4.blk y (by omega), k2 y hy]⟩
  refine gNew_spec n s3 M h4 l4.rd _ (fun e h7 f7 ge => ?_) fun N h7 o eN ok d lo f7 => ?_
  · have z7 := f7.size
    have F7 : Fr h.size h h7 := ⟨by omega, fun y hy => by rw [f7.blk y (by omega), f04.blk y hy]⟩
    rw [n4] at ge
    refine rgNew_spec n s M h7 (hr.fr F7) _ (fun e' ge' => ?_) fun N h' a e' eN ok' _ _ => absurd ok' ge.not
    obtain rfl := ge.uniq ge'
    refine jn_of (fun (t : Bool × Unit) g => t.1 = true ∧ g = h7) ?_ fun K13 hK13 => ?_
    case refine_2 =>
      refine cnd_t (by simp) (cnd_t rfl (edges_spec (l4.rd.fr f7) (hr.fr F7) (by have := hr.ilen; omega) _ fun b hb => hK13 _ _ ⟨hb.2 rfl, rfl⟩))
    rintro ⟨_, _⟩ g ⟨rfl, eg⟩
    rw [eg]
    refine jn_of (fun _ g => g.size = h7.size ∧ ∀ y, y < h.size → g.blk y = h.blk y) ?_ fun K16 hK16 => ?_
    case refine_2 => exact zeros h7 _ z7 f7.blk fun g zg _ kg => hK16 _ _ ⟨zg, kg⟩
    rintro ⟨⟩ g ⟨zg, kg⟩
    exact cnd_f rfl (hbad g ge.not ⟨by omega, kg⟩)
  · have z7 := f7.size
    have F7 : Fr h.size h h7 := ⟨by omega, fun y hy => by rw [f7.blk y (by omega), f04.blk y hy]⟩
    rw [n4] at ok d
    refine rgNew_spec n s M h7 (hr.fr F7) _ (fun e' ge' => absurd ok ge'.not) fun N' h10 a e' eN' _ d' f10 => ?_
    obtain rfl : N' = N := by omega
    have z10 := f10.size
    have F10 : Fr h.size h h10 := ⟨by omega, fun y hy => by rw [f10.blk y (by omega), F7.blk y hy]⟩
    have f410 : Fr h4.size h4 h10 := ⟨by omega, fun y hy => by rw [f10.blk y (by omega), f7.blk y hy]⟩
    have d10 := d.fr f10
    refine jn_of (fun (t : Bool × Unit) g => t.1 = true ∧ g = h10) ?_ fun K13 hK13 => ?_
    case refine_2 =>
      refine cnd_t (by simp) (cnd_t rfl (edges_spec (l4.rd.fr f410) (hr.fr F10) (by have := hr.ilen; omega) _ fun b hb => hK13 _ _ ⟨hb.2 rfl, rfl⟩))
    rintro ⟨_, _⟩ g ⟨rfl, eg⟩
    rw [eg]
    refine jn_of (fun _ g => g.size = h10.size ∧ (∀ y, h4.size ≤ y → g.blk y = h10.blk y) ∧ ∀ y, y < h.size → g.blk y = h.blk y) ?_ fun K16 hK16 => ?_
    case refine_2 => exact zeros h10 _ (by omega) f410.blk fun g zg k4 kg => hK16 _ _ ⟨zg, k4, kg⟩
    rintro ⟨⟩ g ⟨zg, k4g, kg⟩
    refine cnd_t rfl (hok N' g o a e' h7.size eN (d10.keep (by omega) fun y hy _ => k4g y (by omega)) (d'.keep (by omega) fun y hy _ => k4g y (by omega)) (by omega) (by omega) ⟨by omega, kg⟩)

end Go.Hx
