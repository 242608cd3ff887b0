/- Spans, of the program and of the document. No condition. -/
import Derived.Test.YtdponlecglgmbaaHxTorR
import Derived.Test.YtdponlecglgmbaaHxGrC
namespace Go.Hx
set_option linter.unusedSimpArgs false
set_option linter.unusedVariables false

/-- A vertex of the first column and one of the last have one label. -/
def spB (w t : Nat) (L : List Nat) : Prop := ∃ a b, a < t ∧ b < t ∧ gt L (a * w) = gt L (b * w + (w - 1))

theorem col_lt {w t a : Nat} (hw : 1 ≤ w) (ha : a < t) : a * w < w * t ∧ a * w + (w - 1) < w * t := by
  have := vtx_lt (X := w - 1) (w := w) (t := t) (Y := a) (by omega) ha
  omega

theorem Spans_spec (x y : Int) (s : Sl) (M : List Int) (h : Hp) (hr : Rd h 3 s (ints M)) (K : Bool → Int → Hp → Prop) (hbad : ¬ goodT x y → K false 2 h)
    (herr : ∀ (w t : Nat) e h', x = w → y = t → goodT x y → GErr ((w * t : Nat) : Int) s.n M e → Fr h.size h h' → K false e h')
    (hok : ∀ (w t : Nat) b h' L, x = w → y = t → goodT x y → GOk ((w * t : Nat) : Int) s.n M → LC (eP M s.n) (w * t) L → Fr h.size h h' → (b = true ↔ spB w t L) → K b 0 h') : g_wrapping_Spans x y s h K := by
  unfold g_wrapping_Spans
  refine fits_spec x y _ _ fun b hb => cnd_of (fun c => hbad fun g => by rw [hb.2 g] at c; cases c) fun c => ?_
  have gd := hb.1 (by simpa using c)
  obtain ⟨w, t, rfl, rfl, hw1, ht1, hn⟩ := goodT_nat gd
  have htn : t ≤ w * t := Nat.le_mul_of_pos_left _ hw1
  have herr := herr w t; have hok := hok w t
  have e1 : IntKind.i64.wrap ((w : Int) * t) = ((w * t : Nat) : Int) := by rw [← Int.natCast_mul, w64n (by omega)]
  simp only [w64, e1]
  refine gNew_spec _ s M h hr _ (fun e h' f ge => cnd_t (by simpa using ge.ne) (herr e h' rfl rfl gd ge f)) fun N h5 o eN ok d lo f5 => cnd_f rfl ?_
  obtain rfl : w * t = N := by omega
  refine gLabels_spec d _ fun s6 h7 L l7 lc f7 => mks_of (by omega) (by omega) (by omega) fun h9 z9 b9 k9 => ?_
  have z5 := f5.size; have z7 := f7.size
  have hl := lc.len
  rw [zrow_one, Int.toNat_natCast] at b9
  have b9 : h9.blk h7.size = some (.cells (bools (List.replicate (w * t) false))) := by rw [b9]; simp [bools]
  have f9 : Fr h.size h h9 := ⟨by omega, fun c hc => by rw [k9 _ (by omega), f7.blk _ (by omega), f5.blk _ hc]⟩
  have r9 := (l7.fr (h' := h9) ⟨by omega, k9⟩).rd
  have lbl : ∀ v, v < w * t → gt L v < w * t := fun v hv => by have := lc.le v hv; omega
  have s6b : nb s6 h7.size := fun y hy => by have := (l7.blk_lt hy).2.1; omega
  have rr : ∀ {g : Hp}, h9.size ≤ g.size → (∀ c, c ≠ h7.size → g.blk c = h9.blk c) → Rd g 1 s6 (ints (nats L)) := fun {g} z k => (l7.fr (h' := h9) ⟨by omega, k9⟩).keep z (fun y hy => k _ (Ne.symm (s6b y hy))) |>.rd
  refine jn_of (fun _ g => h9.size ≤ g.size ∧ (∀ c, c ≠ h7.size → g.blk c = h9.blk c) ∧ ∃ Bs : List Bool, Bs.length = w * t ∧ g.blk h7.size = some (.cells (bools Bs)) ∧ ∀ v, v < w * t → (Bs.getD v false = true ↔ ∃ a, a < t ∧ gt L (a * w) = v)) ?_ fun K12 hK12 => ?_
  case refine_2 =>
    refine for_of t (fun k (st : Int × Unit) g => st.1 = (k : Int) ∧ h9.size ≤ g.size ∧ (∀ c, c ≠ h7.size → g.blk c = h9.blk c) ∧ ∃ Bs : List Bool, Bs.length = w * t ∧ g.blk h7.size = some (.cells (bools Bs)) ∧ ∀ v, v < w * t → (Bs.getD v false = true ↔ ∃ a, a < k ∧ gt L (a * w) = v)) ?_
      ⟨rfl, Nat.le_refl _, fun _ _ => rfl, List.replicate (w * t) false, by simp, b9, fun v hv => ?_⟩
    · rintro k Kr ⟨st, u⟩ g hk ⟨rfl, zg, kg, Bs, lB, gB, iff⟩ hKr
      refine cnd_of (fun cc => ?_) fun cc => ?_
      · simp only [decide_eq_true_eq] at cc
        have hkt : k < t := by omega
        have hc := col_lt hw1 hkt
        have y1 : IntKind.i64.wrap ((k : Int) * w) = ((k * w : Nat) : Int) := by rw [← Int.natCast_mul, w64n (by omega)]
        simp only [y1]
        have hv := lbl _ hc.1
        refine get1_spec (rr zg kg) (by omega) _ (ix_of (by omega) (by first | omega | (simp only; omega)) ?_)
        simp only [add_mk, Nat.zero_add, Nat.add_zero, Nat.mul_one, Int.toNat_natCast]
        refine stc_of gB (by rw [bools_len]; omega) fun g2 z2 b2 k2 => hKr hkt _ _ ⟨?_, by omega, fun c hc => by rw [k2 _ hc, kg _ hc], Bs.set (gt L (k * w)) true, by simp [lB], by rw [b2, bools_set], fun v hv' => ?_⟩
        · simp only; rw [w64s (by omega)]
        · rw [setTrue_getD (by omega)]
          by_cases q : gt L (k * w) = v
          · rw [if_pos q]; exact ⟨fun _ => ⟨k, by omega, q⟩, fun _ => rfl⟩
          · rw [if_neg q, iff v hv']
            exact ⟨fun ⟨a, ha, q'⟩ => ⟨a, by omega, q'⟩, fun ⟨a, ha, q'⟩ => ⟨a, by have : a ≠ k := fun e => q (e ▸ q'); omega, q'⟩⟩
      · simp only [decide_eq_false_iff_not] at cc
        obtain rfl : k = t := by omega
        exact hK12 _ _ ⟨zg, kg, Bs, lB, gB, iff⟩
    · constructor
      · intro q; simp [List.getD, List.getElem?_replicate, hv] at q
      · intro ⟨a, ha, _⟩; omega
  rintro ⟨⟩ h11 ⟨z11, k11, Bs, lB, gB, iff⟩
  have f11 : Fr h.size h h11 := ⟨by omega, fun c hc => by rw [k11 _ (by omega), f9.blk _ hc]⟩
  refine for_of t (fun k (st : Int × Unit) g => st.1 = (k : Int) ∧ g = h11 ∧ ∀ b, b < k → ¬ ∃ a, a < t ∧ gt L (a * w) = gt L (b * w + (w - 1))) ?_ ⟨rfl, rfl, fun b hb => by omega⟩
  rintro k Kr ⟨st, u⟩ g hk ⟨rfl, rfl, hno⟩ hKr
  refine cnd_of (fun cc => ?_) fun cc => ?_
  · simp only [decide_eq_true_eq] at cc
    have hkt : k < t := by omega
    have hc := col_lt hw1 hkt
    have y1 : IntKind.i64.wrap ((k : Int) * w) = ((k * w : Nat) : Int) := by rw [← Int.natCast_mul, w64n (by omega)]
    have y2 : IntKind.i64.wrap (((k * w : Nat) : Int) + w) = ((k * w + w : Nat) : Int) := by rw [← Int.natCast_add, w64n (by omega)]
    have y3 : IntKind.i64.wrap (((k * w + w : Nat) : Int) - 1) = ((k * w + (w - 1) : Nat) : Int) := by rw [w64_eq (by omega) (by omega)]; omega
    simp only [y1, y2, y3]
    have hv := lbl _ hc.2
    refine get1_spec (rr z11 k11) (by omega) _ (ix_of (by omega) (by first | omega | (simp only; omega)) ?_)
    simp only [add_mk, Nat.zero_add, Nat.add_zero, Nat.mul_one, Int.toNat_natCast]
    refine ldB_of (by rw [cell_own gB, bools_get (by omega)]) (cnd_of (fun c1 => ?_) fun c1 => hKr hkt _ _ ⟨?_, rfl, fun b hb => ?_⟩)
    · obtain ⟨a, ha, q⟩ := (iff _ hv).1 c1
      exact hok true g L rfl rfl gd ok lc f11 ⟨fun _ => ⟨a, k, ha, hkt, q⟩, fun _ => rfl⟩
    · simp only; rw [w64s (by omega)]
    · by_cases e : b = k
      · subst e
        intro q
        rw [(iff _ hv).2 q] at c1; cases c1
      · exact hno b (by omega)
  · simp only [decide_eq_false_iff_not] at cc
    obtain rfl : k = t := by omega
    exact hok false g L rfl rfl gd ok lc f11 ⟨fun q => (by cases q), fun ⟨a, b, ha, hb, q⟩ => absurd ⟨a, ha, q⟩ (hno b hb)⟩

theorem rSpans_spec (x y : Int) (s : Sl) (M : List Int) (h : Hp) (hr : Rd h 3 s (ints M)) (K : Bool → Int → Hp → Prop) (hbad : ¬ goodT x y → K false 2 h)
    (herr : ∀ (w t : Nat) e, x = w → y = t → goodT x y → GErr ((w * t : Nat) : Int) s.n M e → K false e h)
    (hok : ∀ (w t : Nat) b h' L, x = w → y = t → goodT x y → GOk ((w * t : Nat) : Int) s.n M → LC (eP M s.n) (w * t) L → Fr h.size h h' → (b = true ↔ spB w t L) → K b 0 h') : g_ref30_Spans x y s h K := by
  unfold g_ref30_Spans
  refine rSizes_spec x y _ _ fun b hb => cnd_of (fun c => hbad fun g => by rw [hb.2 g] at c; cases c) fun c => ?_
  have gd := hb.1 (by simpa using c)
  obtain ⟨w, t, rfl, rfl, hw1, ht1, hn⟩ := goodT_nat gd
  have htn : t ≤ w * t := Nat.le_mul_of_pos_left _ hw1
  have herr := herr w t; have hok := hok w t
  have e1 : IntKind.i64.wrap ((w : Int) * t) = ((w * t : Nat) : Int) := by rw [← Int.natCast_mul, w64n (by omega)]
  simp only [w64, e1]
  refine rgNew_spec _ s M h hr _ (fun e ge => cnd_t (by simpa using ge.ne) (herr e rfl rfl gd ge)) fun N h5 a e eN ok d f5 => cnd_f rfl ?_
  obtain rfl : w * t = N := by omega
  refine rgLabels_spec d _ fun s6 h7 L l7 lc f7 => ?_
  have z5 := f5.size; have z7 := f7.size
  have hl := lc.len
  have f7' : Fr h.size h h7 := ⟨by omega, fun c hc => by rw [f7.blk _ (by omega), f5.blk _ hc]⟩
  refine for_of t (fun k (st : Int × Unit) g => st.1 = (k : Int) ∧ g = h7 ∧ ∀ a b, a < k → b < t → gt L (a * w) ≠ gt L (b * w + (w - 1))) ?_ ⟨rfl, rfl, fun a b ha => by omega⟩
  rintro k Kr ⟨st, u⟩ g hk ⟨rfl, rfl, hno⟩ hKr
  refine cnd_of (fun cc => ?_) fun cc => ?_
  · simp only [decide_eq_true_eq] at cc
    have hkt : k < t := by omega
    have hc := col_lt hw1 hkt
    have y1 : IntKind.i64.wrap ((k : Int) * w) = ((k * w : Nat) : Int) := by rw [← Int.natCast_mul, w64n (by omega)]
    simp only [y1]
    refine for_of t (fun j (st : Int × Unit) g' => st.1 = (j : Int) ∧ g' = g ∧ ∀ b, b < j → gt L (k * w) ≠ gt L (b * w + (w - 1))) ?_ ⟨rfl, rfl, fun b hb => by omega⟩
    rintro j Kj ⟨st, u⟩ g' hj ⟨rfl, rfl, hno2⟩ hKj
    refine cnd_of (fun c2 => ?_) fun c2 => ?_
    · simp only [decide_eq_true_eq] at c2
      have hjt : j < t := by omega
      have hc2 := col_lt hw1 hjt
      have y4 : IntKind.i64.wrap ((j : Int) * w) = ((j * w : Nat) : Int) := by rw [← Int.natCast_mul, w64n (by omega)]
      have y2 : IntKind.i64.wrap (((j * w : Nat) : Int) + w) = ((j * w + w : Nat) : Int) := by rw [← Int.natCast_add, w64n (by omega)]
      have y3 : IntKind.i64.wrap (((j * w + w : Nat) : Int) - 1) = ((j * w + (w - 1) : Nat) : Int) := by rw [w64_eq (by omega) (by omega)]; omega
      simp only [y4, y2, y3]
      refine get1_spec l7.rd (by omega) _ (get1_spec l7.rd (by omega) _ (cnd_of (fun c3 => ?_) fun c3 => hKj hjt _ _ ⟨?_, rfl, fun b hb => ?_⟩))
      · simp only [beq_iff_eq] at c3
        exact hok true g' L rfl rfl gd ok lc f7' ⟨fun _ => ⟨k, j, hkt, hjt, by omega⟩, fun _ => rfl⟩
      · simp only; rw [w64s (by omega)]
      · simp only [beq_eq_false_iff_ne] at c3
        by_cases e : b = j
        · subst e; omega
        · exact hno2 b (by omega)
    · simp only [decide_eq_false_iff_not] at c2
      obtain rfl : j = t := by omega
      refine hKr hkt _ _ ⟨?_, rfl, fun a b ha hb => ?_⟩
      · simp only; rw [w64s (by omega)]
      · by_cases e : a = k
        · subst e; exact hno2 b hb
        · exact hno a b (by omega) hb
  · simp only [decide_eq_false_iff_not] at cc
    obtain rfl : k = t := by omega
    exact hok false g L rfl rfl gd ok lc f7' ⟨fun q => (by cases q), fun ⟨a, b, ha, hb, q⟩ => absurd q (hno a b ha hb)⟩

theorem g_law30_WrappingSpans_true (x y : Int) (s : Sl) (h : Hp) (K : Bool → Hp → Prop) (_ : -9223372036854775808 ≤ x ∧ x ≤ 9223372036854775807) (_ : -9223372036854775808 ≤ y ∧ y ≤ 9223372036854775807) {M : List Int} (hM : Rd h 3 s (ints M)) (hy : s.n ≤ 2 ^ 63 - 1)
    (_ : ∀ x ∈ M, -9223372036854775808 ≤ x ∧ x ≤ 9223372036854775807) (hK : ∀ h', K true h') : g_law30_WrappingSpans x y s h K := by
  unfold g_law30_WrappingSpans
  refine small30_spec x y _ _ fun b _ => cnd_of (fun _ => works_spec _ _ fun h' _ => hK h') fun _ => cnd_of (fun _ => works_spec _ _ fun h' _ => hK h') fun hl => ?_
  have fin : ∀ (b : Bool) (e : Int) h', cnd (b == b) (cnd (e == e) (g_law30_works h' fun r13 h14 => K r13 h14) (K false h')) (K false h') := fun b e h' => cnd_t (by simp) (cnd_t (by simp) (works_spec _ _ fun h' _ => hK h'))
  have nat : ∀ {w t w' t' : Nat}, x = w → y = t → x = w' → y = t' → w = w' ∧ t = t' := fun h1 h2 h3 h4 => by omega
  refine Spans_spec x y s M h hM _ (fun g => rSpans_spec x y s M h hM _ (fun _ => fin _ _ _) (fun w t e hx hy g' ge => absurd g' g) fun w t b h' L hx hy g' ok lc f hb => absurd g' g)
    (fun w t e h' hx hy g ge f => rSpans_spec x y s M h' (hM.fr f) _ (fun g' => absurd g g') (fun w' t' e' hx' hy' g' ge' => ?_) fun w' t' b h' L hx' hy' g' ok lc f hb => ?_)
    fun w t b h' L hx hy g ok lc f hb => rSpans_spec x y s M h' (hM.fr f) _ (fun g' => absurd g g') (fun w' t' e' hx' hy' g' ge' => ?_) fun w' t' b' h2 L' hx' hy' g' ok' lc' f' hb' => ?_
  all_goals obtain ⟨rfl, rfl⟩ := nat hx hy hx' hy'
  · obtain rfl := ge.uniq ge'
    exact fin _ _ _
  · exact absurd ok ge.not
  · exact absurd ok ge'.not
  · obtain rfl := lc.uniq lc'
    obtain rfl : b = b' := by rw [Bool.eq_iff_iff]; exact hb.trans hb'.symm
    exact fin _ _ _

end Go.Hx
