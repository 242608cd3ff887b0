/- Making tori, and what they show, over the abstract heap. No condition. -/
import Derived.Test.YtdponlecglgmbaaHxTorB
namespace Go.Hx
set_option linter.unusedSimpArgs false
set_option linter.unusedVariables false

abbrev goodT (w h : Int) : Prop := 1 ≤ w ∧ 1 ≤ h ∧ w * h ≤ 4096

theorem goodT_le {w h : Int} (g : goodT w h) : w ≤ 4096 ∧ h ≤ 4096 := by
  obtain ⟨h1, h2, h3⟩ := g
  constructor
  · have : w * 1 ≤ w * h := Int.mul_le_mul_of_nonneg_left h2 (by omega)
    omega
  · have : 1 * h ≤ w * h := Int.mul_le_mul_of_nonneg_right h1 (by omega)
    omega

theorem fits_spec (w h : Int) (H : Hp) (K : Bool → Hp → Prop) (hK : ∀ b, (b = true ↔ goodT w h) → K b H) : g_wrapping_fits w h H K := by
  unfold g_wrapping_fits
  refine cnd_of (fun b => cnd_of (fun c => ⟨?_, hK _ ?_⟩) fun c => hK _ ?_) fun b => hK _ ?_
  all_goals simp only [decide_eq_true_eq, decide_eq_false_iff_not] at *
  · omega
  · have e : Int.tdiv 4096 h = 4096 / h := Int.tdiv_eq_ediv_of_nonneg (by omega)
    have h0 : 0 ≤ 4096 / h := Int.ediv_nonneg (by omega) (by omega)
    have h1 : 4096 / h ≤ 4096 := Int.ediv_le_self _ (by omega)
    rw [w64, e, w64_eq (by omega) (by omega)]
    have := Int.le_ediv_iff_mul_le (a := w) (b := 4096) (c := h) (by omega)
    constructor
    · intro k; exact ⟨by omega, by omega, this.1 k⟩
    · intro k; exact this.2 k.2.2
  · constructor
    · intro k; cases k
    · intro k; have := k.2.1; omega
  · constructor
    · intro k; cases k
    · intro k; have := k.1; omega

theorem zrow_one (v : Value) (n : Nat) : zrow [v] n = List.replicate n v := by
  unfold zrow
  induction n with
  | zero => rfl
  | succ n ih => rw [List.replicate_succ, List.flatten_cons, ih]; rfl
theorem zrow_two (v : Value) (n : Nat) : zrow [v, v] n = List.replicate (2 * n) v := by
  unfold zrow
  induction n with
  | zero => rfl
  | succ n ih => rw [List.replicate_succ, List.flatten_cons, ih, show 2 * (n + 1) = 2 * n + 1 + 1 by omega, List.replicate_succ, List.replicate_succ]; rfl

theorem New_spec (x y : Int) (h : Hp) (K : Option Addr → Int → Hp → Prop) (hbad : ¬ goodT x y → K none 2 h)
    (hok : ∀ w t : Nat, x = w → y = t → goodT x y → ∀ h' o, TSx h' o w t (fun _ _ _ _ => False) (idL (w * t)) (List.replicate (w * t) 1) (List.replicate (2 * (w * t)) 0) (List.replicate (2 * (w * t)) false) false false (w * t) (idL (w * t)) (idL (w * t)) (fun _ => 0) (fun _ _ => 0) →
      h.size ≤ o.lo → Fr h.size h h' → K (some ⟨o.a, 0, none⟩) 0 h') : g_wrapping_New x y h K := by
  unfold g_wrapping_New
  refine fits_spec _ _ _ _ fun b hb => cnd_of (fun c => hbad fun g => ?_) fun c => ?_
  · simp [hb.2 g] at c
  have g : goodT x y := hb.1 (by simpa using c)
  obtain ⟨gx, gy⟩ := goodT_le g
  obtain ⟨w, rfl⟩ : ∃ w : Nat, x = w := ⟨x.toNat, by have := g.1; omega⟩
  obtain ⟨t, rfl⟩ : ∃ t : Nat, y = t := ⟨y.toNat, by have := g.2.1; omega⟩
  have hw1 : 1 ≤ w := by have := g.1; omega
  have ht1 : 1 ≤ t := by have := g.2.1; omega
  have hn : w * t ≤ 4096 := by have := g.2.2; rw [← Int.natCast_mul] at this; omega
  have hok := hok w t rfl rfl g
  have e1 : IntKind.i64.wrap ((w : Int) * t) = ((w * t : Nat) : Int) := by rw [← Int.natCast_mul, w64n (by omega)]
  simp only [w64, e1]
  refine jn_of (fun s h4 => ∃ p q r s' : Nat, ∃ a : Nat, s.1 = ⟨a, 0, none⟩ ∧ Fr h.size h h4 ∧ h4.blk a = some (.cells [.int .i64 (w : Nat), .int .i64 (t : Nat), .slice (some ⟨p, 0, none⟩) (w * t) (w * t), .slice (some ⟨q, 0, none⟩) (w * t) (w * t), .slice (some ⟨r, 0, none⟩) (w * t) (w * t), .slice (some ⟨s', 0, none⟩) (w * t) (w * t), .bool false, .bool false, .int .i64 ((w * t : Nat) : Int)]) ∧
    h4.blk p = some (.cells (zrow [.int .i64 0] (w * t))) ∧ h4.blk q = some (.cells (zrow [.int .i64 0, .int .i64 0] (w * t))) ∧ h4.blk r = some (.cells (zrow [.int .i64 0] (w * t))) ∧ h4.blk s' = some (.cells (zrow [.bool false, .bool false] (w * t))) ∧
    (h.size ≤ p ∧ p < a) ∧ (h.size ≤ q ∧ q < a) ∧ (h.size ≤ r ∧ r < a) ∧ (h.size ≤ s' ∧ s' < a) ∧ a < h4.size ∧ p ≠ q ∧ p ≠ r ∧ p ≠ s' ∧ q ≠ r ∧ q ≠ s' ∧ r ≠ s') ?_ fun K5 hK5 => ?_
  case refine_2 =>
    have leaf : ∀ (h5 h6 : Hp) (p q r s' : Nat), h6.size = h5.size + 1 → h6.blk h5.size = some (.cells [.int .i64 (w : Nat), .int .i64 (t : Nat), .slice (some ⟨p, 0, none⟩) (w * t) (w * t), .slice (some ⟨q, 0, none⟩) (w * t) (w * t), .slice (some ⟨r, 0, none⟩) (w * t) (w * t), .slice (some ⟨s', 0, none⟩) (w * t) (w * t), .bool false, .bool false, .int .i64 ((w * t : Nat) : Int)]) →
        (∀ c, c < h5.size → h6.blk c = h5.blk c) → h5.blk p = some (.cells (zrow [.int .i64 0] (w * t))) → h5.blk q = some (.cells (zrow [.int .i64 0, .int .i64 0] (w * t))) → h5.blk r = some (.cells (zrow [.int .i64 0] (w * t))) → h5.blk s' = some (.cells (zrow [.bool false, .bool false] (w * t))) →
        ((h.size ≤ p ∧ p < h5.size) ∧ (h.size ≤ q ∧ q < h5.size) ∧ (h.size ≤ r ∧ r < h5.size) ∧ (h.size ≤ s' ∧ s' < h5.size) ∧ p ≠ q ∧ p ≠ r ∧ p ≠ s' ∧ q ≠ r ∧ q ≠ s' ∧ r ≠ s') → (h.size ≤ h5.size ∧ ∀ c, c < h.size → h5.blk c = h.blk c) → K5 (⟨h5.size, 0, none⟩, ()) h6 := by
      intro h5 h6 p q r s' z6 b6 k6 bp bq br bs ⟨i1, i2, i3, i4, n1, n2, n3, n4, n5, n6⟩ ⟨z5, k5⟩
      exact hK5 _ _ ⟨p, q, r, s', h5.size, rfl, ⟨by omega, fun c hc => by rw [k6 _ (by omega), k5 _ hc]⟩, b6, by rw [k6 _ i1.2, bp], by rw [k6 _ i2.2, bq], by rw [k6 _ i3.2, br], by rw [k6 _ i4.2, bs], i1, i2, i3, i4, by omega, n1, n2, n3, n4, n5, n6⟩
    refine ⟨?_, ?_, ?_, ?_⟩ <;> refine mks_of (by omega) (by omega) (by omega) fun ha za ba ka => ⟨?_, ?_, ?_⟩ <;> refine mks_of (by omega) (by omega) (by omega) fun hb' zb bb kb => ⟨?_, ?_⟩ <;>
      refine mks_of (by omega) (by omega) (by omega) fun hc zc bc kc => mks_of (by omega) (by omega) (by omega) fun hd zd bd kd => alo_of fun he ze be ke => leaf hd he _ _ _ _ ze be ke ?_ ?_ ?_ ?_ (by omega) ⟨by omega, fun c hcc => by rw [kd _ (by omega), kc _ (by omega), kb _ (by omega), ka _ hcc]⟩
    all_goals first
      | exact bd
      | (rw [kd _ (by omega)]; exact bc)
      | (rw [kd _ (by omega), kc _ (by omega)]; exact bb)
      | (rw [kd _ (by omega), kc _ (by omega), kb _ (by omega)]; exact ba)
  rintro ⟨_, u⟩ h4 ⟨p, q, r, s', a, rfl, f4, b4, bp, bq, br, bs, ip, iq, ir, is, ia, n1, n2, n3, n4, n5, n6⟩
  -- the elements
  refine for_of (w * t) (fun k (s : Int × Unit) g => s.1 = (k : Int) ∧ g.size = h4.size ∧ (∃ l1 l2 : List Nat, l1.length = w * t ∧ l2.length = w * t ∧ (∀ i, i < k → gt l1 i = i ∧ gt l2 i = 1) ∧ g.blk p = some (.cells (ints (nats l1))) ∧ g.blk r = some (.cells (ints (nats l2)))) ∧ ∀ c, c ≠ p → c ≠ r → g.blk c = h4.blk c) ?_
    ⟨rfl, rfl, ⟨List.replicate (w * t) 0, List.replicate (w * t) 0, by simp, by simp, fun i hi => by omega, by rw [bp, zrow_one]; simp [ints, nats], by rw [br, zrow_one]; simp [ints, nats]⟩, fun _ _ _ => rfl⟩
  rintro k Kr ⟨s, u⟩ g hk ⟨rfl, zg, ⟨l1, l2, hl1, hl2, hl, gp, gr⟩, gk⟩ hKr
  have ga := (gk a (by omega) (by omega)).trans b4
  refine cnd_of (fun c => ?_) fun c => ?_
  · simp only [decide_eq_true_eq] at c
    have hkn : k < w * t := by omega
    refine nn_of ?_
    simp only [add_mk, Nat.zero_add, Nat.add_zero, Nat.mul_one, show Int.toNat (k : Int) = k from rfl]
    refine ldS_of (by rw [cell_own ga]; rfl) (nn_of ?_)
    simp only [add_mk, Nat.zero_add, Nat.add_zero]
    refine ldS_of (by rw [cell_own ga]; rfl) (ix_of (by omega) (by first | omega | (simp only; omega)) ?_)
    simp only [add_mk, Nat.zero_add, Nat.add_zero]
    refine stc_of gp (by rw [ints_len, nats_len, hl1]; exact hkn) fun g1 z1 b1 k1 => ix_of (by omega) (by first | omega | (simp only; omega)) ?_
    simp only [add_mk, Nat.zero_add, Nat.add_zero]
    have gr1 := (k1 r (Ne.symm n2)).trans gr
    refine stc_of gr1 (by rw [ints_len, nats_len, hl2]; exact hkn) fun g2 z2 b2 k2 => hKr hkn _ _ ⟨?_, by omega, ⟨l1.set k k, l2.set k 1, by simp [hl1], by simp [hl2], fun i hi => ?_, ?_, ?_⟩, fun c hc1 hc2 => by rw [k2 _ hc2, k1 _ hc1, gk _ hc1 hc2]⟩
    · simp only; rw [w64_eq (by omega) (by omega)]; omega
    · rw [gt_set, gt_set]
      by_cases e : k = i
      · subst e; rw [if_pos ⟨rfl, by omega⟩, if_pos ⟨rfl, by omega⟩]; exact ⟨rfl, rfl⟩
      · rw [if_neg (fun q => e q.1), if_neg (fun q => e q.1)]; exact hl i (by omega)
    · rw [k2 _ n2, b1, ints_set, nats_set]
    · rw [b2, ints_set, show (1 : Int) = ((1 : Nat) : Int) from rfl, nats_set]
  · simp only [decide_eq_false_iff_not] at c
    have : k = w * t := by omega
    subst this
    have el1 : l1 = idL (w * t) := by
      refine List.ext_getElem (by simp [hl1, idL]) fun i h1 h2 => ?_
      have := (hl i (by omega)).1
      simp [gt, List.getD, List.getElem?_eq_getElem h1] at this
      simp [this, idL]
    have el2 : l2 = List.replicate (w * t) 1 := by
      refine List.ext_getElem (by simp [hl2]) fun i h1 h2 => ?_
      have := (hl i (by omega)).2
      simp [gt, List.getD, List.getElem?_eq_getElem h1] at this
      simp [this]
    subst el1 el2
    have := TInv.start (w * t)
    refine hok g ⟨a, p, q, r, s', h.size, h4.size⟩ ⟨hw1, ht1, hn, ?_, ga, gp, (gk q (Ne.symm n1) n4).trans (by rw [bq, zrow_two]; simp [ints]), gr, (gk s' (Ne.symm n3) (Ne.symm n6)).trans (by rw [bs, zrow_two]; simp [bools]), by simp, by simp, by rw [zg]; exact Nat.le_refl _,
      ⟨Nat.le_trans ip.1 (Nat.le_of_lt ip.2), ia⟩, ⟨ip.1, Nat.lt_trans ip.2 ia⟩, ⟨iq.1, Nat.lt_trans iq.2 ia⟩, ⟨ir.1, Nat.lt_trans ir.2 ia⟩, ⟨is.1, Nat.lt_trans is.2 ia⟩, Ne.symm (Nat.ne_of_lt ip.2), Ne.symm (Nat.ne_of_lt iq.2), Ne.symm (Nat.ne_of_lt ir.2), Ne.symm (Nat.ne_of_lt is.2), n1, n2, n3, n4, n5, n6⟩ (Nat.le_refl _)
      ⟨by rw [zg]; exact f4.size, fun c hc => by rw [gk _ (by omega) (by omega), f4.blk _ hc]⟩
    have eo : oF (List.replicate (2 * (w * t)) 0) = fun _ _ => 0 := by
      funext k i; unfold oF; simp only [List.getD, List.getElem?_replicate]; split <;> (first | rfl | (split <;> rfl))
    have ew : wF (List.replicate (2 * (w * t)) false) = fun _ _ => false := by
      funext k i; unfold wF; simp only [List.getD, List.getElem?_replicate]; split <;> (first | rfl | (split <;> rfl))
    have ea : aF false false = fun _ => false := by funext k; cases k <;> rfl
    rw [eo, ew, ea]
    exact this

section
variable {h : Hp} {o : TOb} {w t : Nat} {R : ER} {par siz : List Nat} {M : List Int} {W : List Bool} {a0 a1 : Bool} {cnt : Nat} {L lea : List Nat} {rk : Nat → Nat} {P : Bool → Nat → Int}

theorem Wraps_spec (d : TSx h o w t R par siz M W a0 a1 cnt L lea rk P) (K : Bool → Bool → Hp → Prop) (hK : K a0 a1 h) : g_wrapping_Torus_Wraps (some ⟨o.a, 0, none⟩) h K := by
  unfold g_wrapping_Torus_Wraps
  refine cnd_f rfl (nn_of ⟨by omega, by omega, ?_⟩)
  simp only [add_mk]
  refine ldB_of (by rw [d.cell]; rfl) (nn_of ⟨by omega, by omega, ?_⟩)
  simp only [add_mk]
  exact ldB_of (by rw [d.cell]; rfl) hK

theorem Count_spec (d : TSx h o w t R par siz M W a0 a1 cnt L lea rk P) (K : Int → Hp → Prop) (hK : K (compN (w * t) R : Nat) h) : g_wrapping_Torus_Count (some ⟨o.a, 0, none⟩) h K := by
  unfold g_wrapping_Torus_Count
  refine cnd_f rfl (nn_of ?_)
  simp only [add_mk]
  refine ldI_of (by rw [d.cell]; rfl) ?_
  rw [d.inv.count]; exact hK

theorem exists_spec (d : TSx h o w t R par siz M W a0 a1 cnt L lea rk P) (a b : Int) (K : Bool → Hp → Prop) (hK : ∀ r, (r = true ↔ 0 ≤ a ∧ a < (w * t : Nat) ∧ 0 ≤ b ∧ b < (w * t : Nat)) → K r h) : g_wrapping_Torus_exists (some ⟨o.a, 0, none⟩) a b h K := by
  unfold g_wrapping_Torus_exists
  refine cnd_t rfl (cnd_of (fun c => nn_of ?_) fun c => hK _ ?_)
  · simp only [decide_eq_true_eq] at c
    simp only [add_mk]
    refine ldS_of (by rw [d.cell]; rfl) (hK _ ?_)
    simp only [decide_eq_true_eq, Int.ofNat_eq_natCast]
    split at c <;> split <;> omega
  · simp only [decide_eq_false_iff_not] at c
    constructor
    · intro k; cases k
    · intro k; exfalso; apply c; split <;> omega

/-- Two roots are found; what is noted beside them lies apart. -/
theorem Same_spec (d : TSx h o w t R par siz M W a0 a1 cnt L lea rk P) (a b : Int) (K : Bool → Hp → Prop)
    (hK : ∀ h' par' M' r, TSx h' o w t R par' siz M' W a0 a1 cnt L lea rk P → FrO o h h' → (r = true ↔ ∃ i j : Nat, a = i ∧ b = j ∧ i < w * t ∧ j < w * t ∧ Conn R i j) → K r h') :
    g_wrapping_Torus_Same (some ⟨o.a, 0, none⟩) a b h K := by
  unfold g_wrapping_Torus_Same
  refine exists_spec d a b _ fun r hr => cnd_of (fun c => ?_) fun c => ?_
  · refine hK h par M _ d (FrO.refl _ _) ?_
    simp only [Bool.not_eq_true'] at c
    constructor
    · intro k; cases k
    · intro ⟨i, j, e1, e2, hi, hj, _⟩
      have : r = true := hr.2 (by omega)
      rw [c] at this; cases this
  · have hg := hr.1 (by simpa using c)
    obtain ⟨i, rfl⟩ : ∃ i : Nat, a = i := ⟨a.toNat, by omega⟩
    obtain ⟨j, rfl⟩ : ∃ j : Nat, b = j := ⟨b.toNat, by omega⟩
    have hi : i < w * t := by omega
    have hj : j < w * t := by omega
    refine find_spec d hi _ fun h1 par1 M1 A d1 f1 hA rA lA rt1 => alo_of fun h2 z2 b2 k2 => ?_
    simp only [add_mk, Nat.zero_add]
    refine stc_of b2 (by simp) fun h3 z3 b3 k3 => stc_of b3 (by simp) fun h4 z4 b4 k4 => ?_
    have f4 : Fr h1.size h1 h4 := ⟨by omega, fun c hc => by rw [k4 _ (by omega), k3 _ (by omega), k2 _ hc]⟩
    have d4 := d1.fr f4
    refine find_spec d4 hj _ fun h5 par5 M5 B d5 f5 hB rB lB rt5 => alo_of fun h6 z6 b6 k6 => ?_
    simp only [add_mk, Nat.zero_add]
    refine stc_of b6 (by simp) fun h7 z7 b7 k7 => stc_of b7 (by simp) fun h8 z8 b8 k8 => ?_
    have f8 : Fr h5.size h5 h8 := ⟨by omega, fun c hc => by rw [k8 _ (by omega), k7 _ (by omega), k6 _ hc]⟩
    refine hK h8 par5 M5 _ (d5.fr f8) ((((f1.frO d).trans (Fr.frO f4)).trans (f5.frO d4)).trans (Fr.frO f8)) ?_
    have rA5 := rt5 A hA rA
    rw [beq_iff_eq]
    constructor
    · intro e
      have e : A = B := Int.ofNat.inj e
      exact ⟨i, j, rfl, rfl, hi, hj, (d.inv.conn hi hj).1 (by rw [← lA, ← lB, e])⟩
    · intro ⟨i', j', e1, e2, _, _, hc⟩
      obtain rfl : i = i' := by omega
      obtain rfl : j = j' := by omega
      have := (d.inv.conn hi hj).2 hc
      rw [d5.inv.d.uni A B (by rw [d5.inv.nl]; exact hA) (by rw [d5.inv.nl]; exact hB) rA5 rB (by rw [lA, lB, this])]

theorem Offset_spec (d : TSx h o w t R par siz M W a0 a1 cnt L lea rk P) (a b : Int) (K : Int → Int → Bool → Hp → Prop)
    (hno : ∀ h' par' M', TSx h' o w t R par' siz M' W a0 a1 cnt L lea rk P → FrO o h h' → ¬ (∃ i j : Nat, a = i ∧ b = j ∧ i < w * t ∧ j < w * t ∧ Conn R i j ∧ ∀ k, ¬ WrapC R i k) → K 0 0 false h')
    (hyes : ∀ h' par' M', TSx h' o w t R par' siz M' W a0 a1 cnt L lea rk P → FrO o h h' → ∀ i j : Nat, a = i → b = j → i < w * t → j < w * t → Conn R i j → (∀ k, ¬ WrapC R i k) → ∀ x y, Wk R i j x y → K x y true h') :
    g_wrapping_Torus_Offset (some ⟨o.a, 0, none⟩) a b h K := by
  unfold g_wrapping_Torus_Offset
  refine Same_spec d a b _ fun h2 par2 M2 r d2 g2 hr => cnd_of (fun c => ?_) fun c => ?_
  · simp only [Bool.not_eq_true'] at c
    exact hno h2 par2 M2 d2 g2 fun ⟨i, j, e1, e2, hi, hj, hc, _⟩ => by
      have := hr.2 ⟨i, j, e1, e2, hi, hj, hc⟩
      rw [c] at this; cases this
  obtain ⟨i, j, rfl, rfl, hi, hj, hc⟩ := hr.1 (by simpa using c)
  have ip := d.ip; have iq := d.iq; have hhi := d2.hi; have hn := d.wt
  refine find_spec d2 hi _ fun h6 par6 M6 A d6 f6 hA rA lA rt6 => alo_of fun h8 z8 b8 k8 => ?_
  simp only [add_mk, Nat.zero_add]
  refine stc_of b8 (by simp) fun h9 z9 b9 k9 => stc_of b9 (by simp) fun h10 z10 b10 k10 => ?_
  simp only [List.set_cons_zero, List.set_cons_succ] at b10
  have f10 : Fr h6.size h6 h10 := ⟨by omega, fun c hc => by rw [k10 _ (by omega), k9 _ (by omega), k8 _ hc]⟩
  have d10 := d6.fr f10
  refine find_spec d10 hj _ fun h14 par14 M14 B d14 f14 hB rB lB rt14 => alo_of fun h16 z16 b16 k16 => ?_
  have z6 := f6.size; have z14 := f14.size
  simp only [add_mk, Nat.zero_add]
  refine stc_of b16 (by simp) fun h17 z17 b17 k17 => stc_of b17 (by simp) fun h18 z18 b18 k18 => ?_
  simp only [List.set_cons_zero, List.set_cons_succ] at b18
  have f18 : Fr h14.size h14 h18 := ⟨by omega, fun c hc => by rw [k18 _ (by omega), k17 _ (by omega), k16 _ hc]⟩
  have d18 := d14.fr f18
  have g18 : FrO o h h18 := (((g2.trans (f6.frO d2)).trans (Fr.frO f10)).trans (f14.frO d10)).trans (Fr.frO f18)
  have c18 : h18.blk h6.size = some (.cells [.int .i64 (P false i), .int .i64 (P true i)]) := by rw [f18.blk _ (by omega), f14.blk _ (by omega) (by omega) (by omega), b10]
  have rA14 := rt14 A hA rA
  refine nn_of ?_
  simp only [add_mk, Nat.zero_add, Nat.add_zero]
  refine ldS_of (by rw [d18.cell]; rfl) (ix_of (by omega) (by first | omega | (simp only; omega)) ?_)
  simp only [add_mk, Nat.zero_add, show Int.toNat (A : Int) = A from rfl]
  refine ldB_of (d18.cs hA false) (ldB_of (d18.cs hA true) ?_)
  have hw : ∀ k, wF W A k = true ↔ WrapC R i k := fun k => d18.inv.wrap hi hA rA14 lA k
  refine cnd_of (fun c => ?_) fun c => ?_
  · refine hno h18 _ _ d18 g18 fun ⟨i', j', e1, e2, _, _, _, hk⟩ => ?_
    obtain rfl : i = i' := by omega
    have w0 : ∀ k, ¬ wF W A k = true := fun k e => hk k ((hw k).1 e)
    have x0 := w0 false; have x1 := w0 true
    simp only [Bool.not_eq_true] at x0 x1
    simp [x0, x1] at c
  · have x0 : wF W A false = false := by revert c; cases wF W A false <;> simp
    have x1 : wF W A true = false := by revert c; cases wF W A true <;> simp
    have hk : ∀ k, ¬ WrapC R i k := fun k hk => by
      have := (hw k).2 hk
      cases k
      · rw [x0] at this; cases this
      · rw [x1] at this; cases this
    obtain ⟨x, y, hxy⟩ := id hc
    have e0 := d18.inv.disp hA rA14 lA x0 hxy
    have e1 := d18.inv.disp hA rA14 lA x1 hxy
    simp only [pr] at e0 e1
    have p0 := d.inv.bound hi false; have p1 := d.inv.bound hi true; have p2 := d.inv.bound hj false; have p3 := d.inv.bound hj true
    refine ldI_of (by rw [cell_own c18]; rfl) (ldI_of (by rw [cell_own c18]; rfl) (ldI_of (by rw [cell_own b18]; rfl) (ldI_of (by rw [cell_own b18]; rfl) (minus_spec _ _ _ _ _ _ fun h30 f30 => ?_))))
    simp only [w64]
    rw [w64_eq (x := P false i - P false j) (by omega) (by omega), w64_eq (x := P true i - P true j) (by omega) (by omega)]
    refine alo_of fun h32 z32 b32 k32 => ?_
    simp only [add_mk, Nat.zero_add, Nat.add_zero]
    refine stc_of b32 (by simp) fun h33 z33 b33 k33 => stc_of b33 (by simp) fun h34 z34 b34 k34 => ?_
    simp only [List.set_cons_zero, List.set_cons_succ] at b34
    have f34 : Fr h18.size h18 h34 := ⟨by have := f30.size; omega, fun c hc => by have := f30.size; rw [k34 _ (by omega), k33 _ (by omega), k32 _ (by omega), f30.blk _ hc]⟩
    have fin := hyes h34 _ _ (d18.fr f34) (g18.trans (Fr.frO f34)) i j rfl rfl hi hj hc hk x y hxy
    rw [e0, e1] at fin
    refine ⟨by omega, by omega, ldI_of (by rw [cell_own b34]; rfl) ⟨by omega, by omega, ldI_of (by rw [cell_own b34]; rfl) fin⟩⟩

end
end Go.Hx
