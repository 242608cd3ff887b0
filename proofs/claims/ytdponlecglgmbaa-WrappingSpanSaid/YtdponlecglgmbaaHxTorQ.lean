/- Tori against the document's: News and Plays. No condition. -/
import Derived.Test.YtdponlecglgmbaaHxTorP
import Derived.Test.YtdponlecglgmbaaHxTorH
namespace Go.Hx
set_option linter.unusedSimpArgs false
set_option linter.unusedVariables false

theorem rSizes_spec (x y : Int) (h : Hp) (K : Bool → Hp → Prop) (hK : ∀ b, (b = true ↔ goodT x y) → K b h) : g_ref30_Sizes x y h K := by
  unfold g_ref30_Sizes
  have no : ¬ goodT x y → (false = true ↔ goodT x y) := fun q => ⟨fun q => (by cases q), fun g => absurd g q⟩
  refine cnd_of (fun c1 => cnd_of (fun c2 => cnd_of (fun c3 => cnd_of (fun c4 => hK _ ?_) fun c => hK _ (no fun g => ?_)) fun c => hK _ (no fun g => ?_)) fun c => hK _ (no fun g => ?_)) fun c => hK _ (no fun g => ?_)
  all_goals simp only [decide_eq_true_eq, decide_eq_false_iff_not] at *
  · have h1 : x * y ≤ 4096 * 4096 := Int.mul_le_mul c3 c4 (by omega) (by omega)
    have h2 : 0 ≤ x * y := Int.mul_nonneg (by omega) (by omega)
    rw [w64, w64_eq (by omega) (by omega)]
    exact ⟨fun q => ⟨c1, c2, q⟩, fun q => q.2.2⟩
  · exact c (goodT_le g).2
  · exact c (goodT_le g).1
  · exact c g.2.1
  · exact c g.1

theorem goodT_nat {x y : Int} (g : goodT x y) : ∃ w t : Nat, x = w ∧ y = t ∧ 1 ≤ w ∧ 1 ≤ t ∧ w * t ≤ 4096 := by
  obtain ⟨h1, h2, h3⟩ := g
  refine ⟨x.toNat, y.toNat, by omega, by omega, by omega, by omega, ?_⟩
  have e1 : ((x.toNat : Nat) : Int) = x := by omega
  have e2 : ((y.toNat : Nat) : Int) = y := by omega
  have : ((x.toNat * y.toNat : Nat) : Int) ≤ 4096 := by rw [Int.natCast_mul, e1, e2]; exact h3
  omega

theorem rNew_spec (x y : Int) (h : Hp) (K : Option Addr → Int → Hp → Prop) (hbad : ¬ goodT x y → K none 2 h)
    (hok : ∀ w t : Nat, x = w → y = t → ∀ h', RS h' h.size (h.size + 1) w t [] → Fr h.size h h' → K (some ⟨h.size + 1, 0, none⟩) 0 h') : g_ref30_New x y h K := by
  unfold g_ref30_New
  refine rSizes_spec x y _ _ fun b hb => cnd_of (fun c => hbad fun g => by rw [hb.2 g] at c; cases c) fun c => ?_
  obtain ⟨w, t, rfl, rfl, hw1, ht1, hn⟩ := goodT_nat (hb.1 (by simpa using c))
  have hwn : w ≤ w * t := Nat.le_mul_of_pos_right _ ht1
  have e1 : IntKind.i64.wrap (IntKind.i64.wrap (2 * (w : Int)) * t) = ((2 * (w * t) : Nat) : Int) := by
    rw [show (2 * (w : Int)) = ((2 * w : Nat) : Int) by omega, w64n (by omega), ← Int.natCast_mul, w64n (by rw [Nat.mul_assoc]; omega), Nat.mul_assoc]
  simp only [w64, e1]
  refine mks_of (by omega) (by omega) (by omega) fun h4 z4 b4 k4 => ?_
  rw [zrow_one, Int.toNat_natCast] at b4
  refine alo_of fun h6 z6 b6 k6 => ?_
  rw [z4] at b6 ⊢
  refine hok w t rfl rfl h6 ⟨hw1, ht1, hn, ?_, ⟨List.replicate (2 * (w * t)) false, by simp, by rw [k6 _ (by omega), b4]; simp [bools], fun e he => ?_⟩, by omega, by omega, fun e he => by cases he⟩ ⟨by omega, fun c hc => by rw [k6 _ (by omega), k4 _ hc]⟩
  · rw [b6]; simp only [Int.toNat_natCast]
  · simp [List.getD, List.getElem?_replicate, he]

/-! ### The document's torus that is nil -/

theorem rn_valid (h : Hp) (K : Bool → Hp → Prop) (hK : K false h) : g_ref30_Torus_valid none h K := by
  unfold g_ref30_Torus_valid
  exact cnd_f rfl hK
theorem rn_wraps (h : Hp) (K : Bool → Bool → Hp → Prop) (hK : K false false h) : g_ref30_Torus_Wraps none h K := by
  unfold g_ref30_Torus_Wraps
  exact rn_valid _ _ (cnd_t rfl hK)
theorem rn_same (h : Hp) (a b : Int) (K : Bool → Hp → Prop) (hK : K false h) : g_ref30_Torus_Same none a b h K := by
  unfold g_ref30_Torus_Same g_ref30_Torus_exists
  exact rn_valid _ _ (cnd_f rfl (cnd_t rfl hK))
theorem rn_offset (h : Hp) (a b : Int) (K : Int → Int → Bool → Hp → Prop) (hK : K 0 0 false h) : g_ref30_Torus_Offset none a b h K := by
  unfold g_ref30_Torus_Offset
  exact rn_same _ _ _ _ (cnd_t rfl hK)
theorem rn_count (h : Hp) (K : Int → Hp → Prop) (hK : K 0 h) : g_ref30_Torus_Count none h K := by
  unfold g_ref30_Torus_Count
  exact rn_valid _ _ (cnd_t rfl hK)
theorem rn_add (h : Hp) (x y d : Int) (K : Bool → Int → Hp → Prop) (hK : K false 1 h) : g_ref30_Torus_Add none x y d h K := by
  unfold g_ref30_Torus_Add
  exact rn_valid _ _ (cnd_t rfl hK)

/-! ### Two tori with the same edges -/

/-- Both nil, or both of the same edges, and not below a bound. -/
def PA (B : Nat) (h : Hp) (p r : Option Addr) : Prop :=
  B ≤ h.size ∧ ((p = none ∧ r = none) ∨ ∃ (o : TOb) (w t hs a : Nat) (E : List Nat), p = some ⟨o.a, 0, none⟩ ∧ r = some ⟨a, 0, none⟩ ∧ TS h o w t (eR w t E) ∧ RS h hs a w t E ∧ B ≤ o.lo ∧ o.hi ≤ hs)

theorem agree_spec {B : Nat} {h : Hp} {p r : Option Addr} (pa : PA B h p r) (i j : Int) (K : Bool → Hp → Prop) (hK : ∀ h', PA B h' p r → Fr B h h' → K true h') : g_law30_agree p r i j h K := by
  unfold g_law30_agree
  obtain ⟨hB, ⟨rfl, rfl⟩ | ⟨o, w, t, hs, a, E, rfl, rfl, d, e, lo, hi⟩⟩ := id pa
  · have z : ZT h none := .inl rfl
    refine zt_wraps z _ (rn_wraps _ _ (zt_offset z _ _ _ (rn_offset _ _ _ _ (cnd_t rfl (cnd_t rfl (cnd_t rfl (cnd_t rfl (cnd_t rfl (zt_same z _ _ _ (rn_same _ _ _ _ (cnd_t rfl (zt_count z _ (rn_count _ _ (hK h pa (Fr.refl _ _))))))))))))))) 
  · have q0 := d.wt1; have q1 := e.lh; have q2 := e.la
    refine Wraps_e d _ fun b0 b1 x0 x1 => rWraps_spec e _ fun h6 c0 c1 f6 y0 y1 => ?_
    obtain rfl := wrB_eq x0 y0
    obtain rfl := wrB_eq x1 y1
    have z6 := f6.size
    have d6 := d.fr f6; have e6 := e.fr f6
    refine Offset_e d6 _ _ _ fun h10 u v bb d10 f10 v1 => ?_
    have z10 := f10.size
    have e10 : RS h10 hs a w t E := e6.keep z10 fun c h1 h2 => f10.blk c (by omega) (.inr (by omega))
    refine rOffset_spec e10 _ _ _ fun h14 u' v' bb' f14 v2 => ?_
    obtain ⟨rfl, rfl, rfl⟩ := ofB_eq v1 v2
    have z14 := f14.size
    have d14 := d10.fr f14; have e14 := e10.fr f14
    refine cnd_t (by simp) (cnd_t (by simp) (cnd_t (by simp) (cnd_t (by simp) (cnd_t (by simp) ?_))))
    refine Same_e d14 _ _ _ fun h16 s1 d16 f16 v1 => ?_
    have z16 := f16.size
    have e16 : RS h16 hs a w t E := e14.keep z16 fun c h1 h2 => f16.blk c (by omega) (.inr (by omega))
    refine rSame_spec e16 _ _ _ fun h18 s2 f18 v2 => ?_
    obtain rfl := saB_eq v1 v2
    have z18 := f18.size
    have d18 := d16.fr f18; have e18 := e16.fr f18
    refine cnd_t (by simp) (Count_e d18 _ (rCount_spec e18 _ fun h22 f22 => ?_))
    have z22 := f22.size
    rw [beq_self_eq_true]
    refine hK h22 ⟨by omega, .inr ⟨o, w, t, hs, a, E, rfl, rfl, d18.fr f22, e18.fr f22, lo, hi⟩⟩ ⟨by omega, fun c hc => ?_⟩
    rw [f22.blk _ (by omega), f18.blk _ (by omega), f16.blk _ (by omega) (.inl (by omega)), f14.blk _ (by omega), f10.blk _ (by omega) (.inl (by omega)), f6.blk _ (by omega)]

/-- The two functions New together. -/
theorem pair_spec (x y : Int) (h : Hp) (K : Option Addr → Int → Option Addr → Int → Hp → Prop) (hK : ∀ p r e h', PA h.size h' p r → Fr h.size h h' → Option.isNone p = Option.isNone r → K p e r e h') :
    g_wrapping_New x y h fun r5 r6 h7 => g_ref30_New x y h7 fun r8 r9 h10 => K r5 r6 r8 r9 h10 := by
  refine New_spec _ _ _ _ (fun g => rNew_spec _ _ _ _ (fun _ => hK _ _ _ _ ⟨Nat.le_refl _, .inl ⟨rfl, rfl⟩⟩ (Fr.refl _ _) rfl) fun w t hx hy h' d _ => ?_) fun w t hx hy g h7 o d hlo f7 => rNew_spec _ _ _ _ (fun q => absurd g q) fun w' t' hx' hy' h' d' f' => ?_
  · exact absurd ⟨by have := d.w1; omega, by have := d.t1; omega, by rw [hx, hy, ← Int.natCast_mul]; have := d.wt; omega⟩ g
  · obtain rfl : w = w' := by omega
    obtain rfl : t = t' := by omega
    have z7 := f7.size; have z' := f'.size
    have d2 : TS h7 o w t (eR w t []) := by rw [eR_nil]; exact ⟨_, _, _, _, _, _, _, _, _, _, _, d⟩
    refine hK _ _ _ _ ⟨by omega, .inr ⟨o, w, t, h7.size, h7.size + 1, [], rfl, rfl, d2.fr f', d', hlo, d2.wt1.2.2.2.1⟩⟩ ⟨by omega, fun c hc => by rw [f'.blk _ (by omega), f7.blk _ hc]⟩ rfl

theorem small30_spec (x y : Int) (h : Hp) (K : Bool → Hp → Prop) (hK : ∀ b, (b = true → goodT x y → x * y ≤ 60) → K b h) : g_law30_small x y h K := by
  unfold g_law30_small
  refine rSizes_spec x y _ _ fun b hb => cnd_of (fun c => hK _ fun _ g => ?_) fun c => hK _ fun q _ => ?_
  · rw [hb.2 g] at c; cases c
  · obtain ⟨w, t, rfl, rfl, hw1, ht1, hn⟩ := goodT_nat (hb.1 (by simpa using c))
    rw [decide_eq_true_eq, w64, ← Int.natCast_mul, w64n (by omega)] at q
    rw [← Int.natCast_mul]; exact q

theorem g_law30_WrappingNews_true (x y i j : Int) (h : Hp) (K : Bool → Hp → Prop) (_ : -9223372036854775808 ≤ x ∧ x ≤ 9223372036854775807) (_ : -9223372036854775808 ≤ y ∧ y ≤ 9223372036854775807) (_ : -9223372036854775808 ≤ i ∧ i ≤ 9223372036854775807) (_ : -9223372036854775808 ≤ j ∧ j ≤ 9223372036854775807) (hK : ∀ h', K true h') :
    g_law30_WrappingNews x y i j h K := by
  unfold g_law30_WrappingNews
  refine small30_spec x y _ _ fun b _ => cnd_of (fun _ => works_spec _ _ fun h' _ => hK h') fun _ => ?_
  refine pair_spec x y h (fun r5 r6 r8 r9 h10 => cnd (r6 == r9) (cnd ((Option.isNone r5) == (Option.isNone r8)) (g_law30_agree r5 r8 i j h10 fun r11 h12 => cnd r11 (g_law30_works h12 fun r13 h14 => K r13 h14) (K false h12)) (K false h10)) (K false h10)) fun p r e h' pa f hn => ?_
  refine cnd_t (by simp) (cnd_t (by rw [hn]; simp) (agree_spec pa _ _ _ fun h12 _ _ => cnd_t rfl (works_spec _ _ fun h' _ => hK h')))

theorem rAdd_spec {h : Hp} {hs a w t : Nat} {E : List Nat} (d : RS h hs a w t E) (x y dir : Int) (K : Bool → Int → Hp → Prop)
    (hbad : ¬ (0 ≤ x ∧ x < w ∧ 0 ≤ y ∧ y < t) → K false 3 h) (harg : 0 ≤ x ∧ x < w ∧ 0 ≤ y ∧ y < t → ¬ (dir = 0 ∨ dir = 1) → K false 2 h)
    (hok : ∀ X Y D : Nat, x = X → y = Y → dir = D → X < w → Y < t → D ≤ 1 → ∀ h' b, RS h' hs a w t ((2 * (Y * w + X) + D) :: E) → h.size ≤ h'.size → (∀ c, c < h.size → c ≠ hs → h'.blk c = h.blk c) →
      (b = true ↔ ¬ Conn (eR w t E) (Y * w + X) (toV w t (Y * w + X) D)) → K b 0 h') : g_ref30_Torus_Add (some ⟨a, 0, none⟩) x y dir h K := by
  have hw1 := d.w1; have ht1 := d.t1; have hwt := d.wt
  have hwn : w ≤ w * t := Nat.le_mul_of_pos_right _ ht1
  have htn : t ≤ w * t := Nat.le_mul_of_pos_left _ hw1
  unfold g_ref30_Torus_Add
  refine valid_spec d _ (cnd_f rfl ?_)
  refine cnd_of (fun c => hbad (by simp only [decide_eq_true_eq] at c; omega)) fun c1 => nn_of ?_
  simp only [add_mk, Nat.zero_add]
  refine ldI_of (by rw [d.cell]; rfl) (cnd_of (fun c => hbad (by simp only [decide_eq_true_eq] at c; omega)) fun c2 => cnd_of (fun c => hbad (by simp only [decide_eq_true_eq] at c; omega)) fun c3 => nn_of ?_)
  simp only [add_mk, Nat.zero_add]
  refine ldI_of (by rw [d.cell]; rfl) (cnd_of (fun c => hbad (by simp only [decide_eq_true_eq] at c; omega)) fun c4 => ?_)
  simp only [decide_eq_false_iff_not] at c1 c2 c3 c4
  have hg : 0 ≤ x ∧ x < w ∧ 0 ≤ y ∧ y < t := by omega
  refine jn_of (fun _ h8 => h8 = h ∧ (dir = 0 ∨ dir = 1)) ?_ fun K9 hK9 => ?_
  case refine_2 =>
    refine cnd_of (fun c => cnd_of (fun c' => harg hg ?_) fun c' => hK9 _ _ ⟨rfl, .inr ?_⟩) fun c => hK9 _ _ ⟨rfl, .inl ?_⟩
    · simp only [bne_iff_ne] at c c'; omega
    · simpa using c'
    · simpa using c
  rintro ⟨⟩ h8 ⟨rfl, hd⟩
  obtain ⟨X, rfl⟩ : ∃ X : Nat, x = X := ⟨x.toNat, by omega⟩
  obtain ⟨Y, rfl⟩ : ∃ Y : Nat, y = Y := ⟨y.toNat, by omega⟩
  obtain ⟨D, rfl⟩ : ∃ D : Nat, dir = D := ⟨dir.toNat, by omega⟩
  have hX : X < w := by omega
  have hY : Y < t := by omega
  have hD : D ≤ 1 := by omega
  have hv := vtx_lt hX hY
  have hok := hok X Y D rfl rfl rfl hX hY hD
  obtain ⟨v, hvv⟩ : ∃ v, v = Y * w + X := ⟨_, rfl⟩
  rw [← hvv] at hok hv
  have e1 : IntKind.i64.wrap ((Y : Int) * w) = ((Y * w : Nat) : Int) := by rw [← Int.natCast_mul, w64n (by omega)]
  have e2 : IntKind.i64.wrap (((Y * w : Nat) : Int) + X) = (v : Int) := by rw [← Int.natCast_add, ← hvv, w64n (by omega)]
  have e3 : IntKind.i64.wrap (2 * (v : Int)) = ((2 * v : Nat) : Int) := by rw [w64_eq (by omega) (by omega)]; omega
  have e4 : IntKind.i64.wrap (((2 * v : Nat) : Int) + D) = ((2 * v + D : Nat) : Int) := by rw [w64_eq (by omega) (by omega)]; omega
  refine nn_of ?_
  simp only [add_mk, Nat.zero_add]
  refine ldI_of (by rw [d.cell]; rfl) ?_
  simp only [w64, e1, e2, e3, e4]
  have hel : 2 * v + D < 2 * (w * t) := by omega
  have q1 : (2 * v + D) / 2 = v := by omega
  have q2 : (2 * v + D) % 2 = D := by omega
  have hz := toV_lt (D := D) hw1 ht1 hv
  refine ends_spec d hel _ (walked_spec d _ fun h18 p q r F X' Y' f18 W wi => alo_of fun h20 z20 b20 k20 => ?_)
  rw [q1, q2]
  have z18 := f18.size
  simp only [add_mk, Nat.zero_add]
  refine stc_of b20 (by simp) fun h21 z21 b21 k21 => stc_of b21 (by simp) fun h22 z22 b22 k22 => stc_of b22 (by simp) fun h23 z23 b23 k23 => nn_of ?_
  simp only [List.set_cons_zero, List.set_cons_succ] at b23
  have f23 : Fr h18.size h18 h23 := ⟨by omega, fun c hc => by rw [k23 _ (by omega), k22 _ (by omega), k21 _ (by omega), k20 _ hc]⟩
  have d23 := (d.fr f18).fr f23
  have ip := W.ip
  have la := d.la; have lh := d.lh
  obtain ⟨Bs, lB, bB, iff⟩ := d23.bh
  simp only [add_mk, Nat.zero_add]
  refine ldS_of (by rw [d23.cell]; rfl) (ix_of (by omega) (by first | omega | (simp only; omega)) ?_)
  simp only [add_mk, Nat.zero_add, Nat.add_zero, Nat.mul_one, Int.toNat_natCast]
  refine stc_of bB (by rw [bools_len]; omega) fun h27 z27 b27 k27 => ?_
  have c27 := (k27 h18.size (by omega)).trans b23
  have bp : h27.blk p = some (.cells (ints F)) := by rw [k27 _ (by omega), f23.blk _ ip.2, W.bp]
  refine ldS_of (by rw [cell_own c27]; rfl) (ix_of (by omega) (by first | omega | (simp only; omega)) ?_)
  simp only [add_mk, Nat.zero_add, Nat.add_zero, Nat.mul_one, Int.toNat_natCast]
  refine ldI_of (gi_cell bp wi.lf hv) (ldS_of (by rw [cell_own c27]; rfl) (ix_of (by omega) (by first | omega | (simp only; omega)) ?_))
  simp only [add_mk, Nat.zero_add, Nat.add_zero, Nat.mul_one, Int.toNat_natCast]
  refine ldI_of (gi_cell bp wi.lf hz) (hok h27 _ ⟨hw1, ht1, hwt, (k27 _ (by omega)).trans d23.ba, ⟨Bs.set (2 * v + D) true, by simp [lB], by rw [b27, bools_set], fun e he => ?_⟩, by omega, lh, fun e he => ?_⟩ (by omega) (fun c hc hcs => by rw [k27 _ hcs, f23.blk _ (by omega), f18.blk _ hc]) ?_)
  · have : (Bs.set (2 * v + D) true).getD e false = if 2 * v + D = e then true else Bs.getD e false := by
      simp only [List.getD, List.getElem?_set]
      by_cases q : 2 * v + D = e
      · subst q; simp [lB, he]
      · simp [q]
    rw [this, List.mem_cons]
    split
    · rename_i q; exact ⟨fun _ => .inl q.symm, fun _ => rfl⟩
    · rename_i q; rw [iff e he]; exact ⟨.inr, fun g => g.elim (fun g => absurd g.symm q) id⟩
  · rcases List.mem_cons.1 he with rfl | he
    · exact hel
    · exact d.hE e he
  · rw [bne_iff_ne, ne_eq, wi.conn (eR_Rb hw1 ht1 d.hE) hv hz]

theorem Add_pair {B : Nat} {h : Hp} {p r : Option Addr} (pa : PA B h p r) (x y dir : Int) (K : Bool → Int → Hp → Prop)
    (hK : ∀ b e h2, Fr B h h2 → (∀ K2 : Bool → Int → Hp → Prop, (∀ h3, PA B h3 p r → Fr B h h3 → K2 b e h3) → g_ref30_Torus_Add r x y dir h2 K2) → K b e h2) : g_wrapping_Torus_Add p x y dir h K := by
  obtain ⟨hB, ⟨rfl, rfl⟩ | ⟨o, w, t, hs, a, E, rfl, rfl, d, e, lo, hi⟩⟩ := id pa
  · exact zt_add (.inl rfl) _ _ _ _ (hK _ _ _ (Fr.refl _ _) fun K2 h2 => rn_add _ _ _ _ _ (h2 _ pa (Fr.refl _ _)))
  · have q1 := e.lh; have q2 := e.la
    have q0 := d.wt1
    obtain ⟨par, siz, M, W, a0, a1, cnt, L, lea, rk, PP, d'⟩ := id d
    refine Add_spec d' x y dir _ (fun bad => hK _ _ _ (Fr.refl _ _) fun K2 h2 => rAdd_spec e _ _ _ _ (fun _ => h2 _ pa (Fr.refl _ _)) (fun g => absurd g bad) fun X Y D e1 e2 _ hX hY _ => absurd (by omega) bad)
      (fun g bad => hK _ _ _ (Fr.refl _ _) fun K2 h2 => rAdd_spec e _ _ _ _ (fun q => absurd g q) (fun _ _ => h2 _ pa (Fr.refl _ _)) fun X Y D _ _ e3 _ _ hD => absurd (by omega) bad) fun X Y D e1 e2 e3 hX hY hD h2 b d2 f2 hb _ => ?_
    have z2 := f2.size
    have r2 : RS h2 hs a w t E := e.keep z2 fun c h1 h2 => f2.blk c (by omega) (.inr (by omega))
    refine hK _ _ _ ⟨z2, fun c hc => f2.blk _ (by omega) (.inl (by omega))⟩ fun K2 hK2 => ?_
    refine rAdd_spec r2 _ _ _ _ (fun q => absurd (by omega) q) (fun _ q => absurd (by omega) q) fun X' Y' D' e1' e2' e3' hX' hY' hD' h3 b' d3 z3 k3 hb' => ?_
    obtain rfl : X = X' := by omega
    obtain rfl : Y = Y' := by omega
    obtain rfl : D = D' := by omega
    obtain rfl : b = b' := by rw [Bool.eq_iff_iff]; exact hb.trans hb'.symm
    have d3' : TS h3 o w t (addE (eR w t E) (Y * w + X) (toV w t (Y * w + X) D) (stX D) (stY D)) := d2.keep z3 fun c h1 h2 => k3 c (by have := d2.wt1; omega) (by omega)
    have hE := addE_eR w t E (2 * (Y * w + X) + D)
    rw [show (2 * (Y * w + X) + D) / 2 = Y * w + X by omega, show (2 * (Y * w + X) + D) % 2 = D by omega] at hE
    rw [hE] at d3'
    exact hK2 _ ⟨by omega, .inr ⟨o, w, t, hs, a, _, rfl, rfl, d3', d3, lo, hi⟩⟩ ⟨by omega, fun c hc => by rw [k3 _ (by omega) (by omega), f2.blk _ (by omega) (.inl (by omega))]⟩

theorem g_law30_WrappingPlays_true (x y : Int) (s : Sl) (i j : Int) (h : Hp) (K : Bool → Hp → Prop) (_ : -9223372036854775808 ≤ x ∧ x ≤ 9223372036854775807) (_ : -9223372036854775808 ≤ y ∧ y ≤ 9223372036854775807) {M : List Int} (hM : Rd h 3 s (ints M)) (hy : s.n ≤ 2 ^ 63 - 1)
    (_ : ∀ x ∈ M, -9223372036854775808 ≤ x ∧ x ≤ 9223372036854775807) (_ : -9223372036854775808 ≤ i ∧ i ≤ 9223372036854775807) (_ : -9223372036854775808 ≤ j ∧ j ≤ 9223372036854775807) (hK : ∀ h', K true h') : g_law30_WrappingPlays x y s i j h K := by
  unfold g_law30_WrappingPlays
  refine small30_spec x y _ _ fun b _ => cnd_of (fun _ => works_spec _ _ fun h' _ => hK h') fun _ => cnd_of (fun _ => works_spec _ _ fun h' _ => hK h') fun hl => ?_
  simp only [decide_eq_false_iff_not, Int.ofNat_eq_natCast] at hl
  refine pair_spec x y h (fun r7 r8 r10 r11 h12 => cnd (r8 != r11) (K false h12) (cnd (!((Option.isNone r7) == (Option.isNone r10))) (K false h12) _)) fun p r e h12 pa f12 hn => cnd_f (by simp) (cnd_f (by rw [hn]; simp) ?_)
  refine for_of s.n (fun k (st : Int × Unit) g => st.1 = (k : Int) ∧ PA h.size g p r ∧ Fr h.size h g) ?_ ⟨rfl, pa, f12⟩
  rintro k Kr ⟨st, u⟩ g hk ⟨rfl, pg, fg⟩ hKr
  refine cnd_of (fun c => ?_) fun c => works_spec _ _ fun h' _ => hK h'
  simp only [decide_eq_true_eq, Int.ofNat_eq_natCast] at c
  have hkn : k < s.n := by omega
  have rd : ∀ g', Fr h.size h g' → ∀ (X : Addr → Prop), (∀ a : Addr, (∀ m, m < 3 → g'.cell (a.add (k * 3 + m)) = some (.int .i64 (M.getD (k * 3 + m) 0))) → a.spot = none → X a) → ix s.a s.n (k : Int) X := fun g' fg' X hX => ix_rd (hM.fr fg') (by omega) (by omega) (by omega) fun a ha hc => hX a (fun m hm => by simpa using hc m hm) ha
  refine rd g fg _ fun a1 h1 s1 => ?_
  simp only [add_add _ _ _ s1, Int.toNat_natCast]
  refine ldI_of (h1 0 (by omega)) (rd g fg _ fun a2 h2 s2 => ?_)
  simp only [add_add _ _ _ s2, Int.toNat_natCast]
  refine ldI_of (h2 1 (by omega)) (rd g fg _ fun a3 h3 s3 => ?_)
  simp only [add_add _ _ _ s3, Int.toNat_natCast]
  refine ldI_of (h3 2 (by omega)) ?_
  refine Add_pair pg _ _ _ _ fun b e g2 f2 hadd => ?_
  have fg2 : Fr h.size h g2 := fg.trans f2
  refine rd g2 fg2 _ fun a1 h1 s1 => ?_
  simp only [add_add _ _ _ s1, Int.toNat_natCast]
  refine ldI_of (h1 0 (by omega)) (rd g2 fg2 _ fun a2 h2 s2 => ?_)
  simp only [add_add _ _ _ s2, Int.toNat_natCast]
  refine ldI_of (h2 1 (by omega)) (rd g2 fg2 _ fun a3 h3 s3 => ?_)
  simp only [add_add _ _ _ s3, Int.toNat_natCast]
  refine ldI_of (h3 2 (by omega)) (hadd _ fun g3 p3 f3 => cnd_f (by simp) (cnd_f (by simp) (agree_spec p3 _ _ _ fun g4 p4 f4 => cnd_f rfl (hKr hkn _ _ ⟨?_, p4, fg.trans (f3.trans f4)⟩))))
  simp only
  rw [w64, w64_eq (by omega) (by omega)]; omega

end Go.Hx
