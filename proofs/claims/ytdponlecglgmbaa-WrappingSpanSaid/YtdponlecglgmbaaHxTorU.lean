/- The law about spanning as a connection in a graph. No condition. -/
import Derived.Test.YtdponlecglgmbaaHxTorS
import Derived.Test.YtdponlecglgmbaaHxGrF
namespace Go.Hx
set_option linter.unusedSimpArgs false
set_option linter.unusedVariables false

/-- The edge of a lattice that an edge of the torus is, if it is one. -/
def opE (w t : Nat) (e : Nat) : List (Nat × Nat) :=
  (if e % 2 = 0 ∧ e / 2 % w < w - 1 then [(e / 2, e / 2 + 1)] else []) ++ (if e % 2 = 1 ∧ e / 2 / w < t - 1 then [(e / 2 + w, e / 2)] else [])
def opQ (w t : Nat) (M : List Nat) : List (Nat × Nat) := M.flatMap (opE w t)
theorem opQ_succ (w t : Nat) (M : List Nat) (e : Nat) : opQ w t (M ++ [e]) = opQ w t M ++ opE w t e := by simp [opQ]
theorem opE_le (w t e : Nat) : (opE w t e).length ≤ 1 := by
  unfold opE
  by_cases h : e % 2 = 0 ∧ e / 2 % w < w - 1 <;> by_cases g : e % 2 = 1 ∧ e / 2 / w < t - 1 <;> simp [h, g]
theorem opQ_le (w t : Nat) (M : List Nat) : (opQ w t M).length ≤ M.length := by
  induction M with
  | nil => simp [opQ]
  | cons e M ih =>
    have := opE_le w t e
    simp only [opQ, List.flatMap_cons, List.length_append, List.length_cons] at *; omega
theorem opQ_ok {w t : Nat} (hw : 1 ≤ w) {M : List Nat} (hM : ∀ e ∈ M, e < 2 * (w * t)) (u v : Nat) (h : (u, v) ∈ opQ w t M) : u < w * t ∧ v < w * t ∧ u ≠ v := by
  obtain ⟨e, he, h⟩ := List.mem_flatMap.1 h
  have hv := hM e he
  unfold opE at h
  rw [List.mem_append] at h
  have h1 : e / 2 / w < t := (Nat.div_lt_iff_lt_mul (by omega)).2 (by rw [Nat.mul_comm]; omega)
  have h2 : e / 2 / w * w + e / 2 % w = e / 2 := by rw [Nat.mul_comm]; exact Nat.div_add_mod _ _
  rcases h with h | h
  · by_cases g : e % 2 = 0 ∧ e / 2 % w < w - 1
    · rw [if_pos g] at h
      simp only [List.mem_cons, Prod.mk.injEq, List.not_mem_nil, or_false] at h
      obtain ⟨rfl, rfl⟩ := h
      have g1 : e / 2 % w + 1 < w := by have := g.2; omega
      have := vtx_lt (t := t) g1 h1
      omega
    · rw [if_neg g] at h; cases h
  · by_cases g : e % 2 = 1 ∧ e / 2 / w < t - 1
    · rw [if_pos g] at h
      simp only [List.mem_cons, Prod.mk.injEq, List.not_mem_nil, or_false] at h
      obtain ⟨rfl, rfl⟩ := h
      have g1 : e / 2 / w + 1 < t := Nat.add_lt_of_lt_sub g.2
      have g2 : e / 2 % w < w := Nat.mod_lt _ hw
      clear h1 g
      generalize e / 2 / w = q at *
      have := vtx_lt (t := t) g2 g1
      rw [Nat.add_mul] at this
      omega
    · rw [if_neg g] at h; cases h

/-- The edges to the two vertices more. -/
def sideQ (w n : Nat) (k : Nat) : List (Nat × Nat) := (List.range k).flatMap fun r => [(n, r * w), (n + 1, r * w + (w - 1))]
theorem sideQ_succ (w n k : Nat) : sideQ w n (k + 1) = sideQ w n k ++ [(n, k * w), (n + 1, k * w + (w - 1))] := by simp [sideQ, List.range_succ]
theorem sideQ_len (w n k : Nat) : (sideQ w n k).length = 2 * k := by
  induction k with
  | zero => rfl
  | succ k ih => rw [sideQ_succ, List.length_append, ih]; simp; omega
theorem sideQ_mem {w n k u v : Nat} : (u, v) ∈ sideQ w n k ↔ ∃ r, r < k ∧ ((u = n ∧ v = r * w) ∨ (u = n + 1 ∧ v = r * w + (w - 1))) := by
  simp only [sideQ, List.mem_flatMap, List.mem_range, List.mem_cons, Prod.mk.injEq, List.not_mem_nil, or_false]

theorem span_iff {w t : Nat} (hw : 1 ≤ w) (Q : List (Nat × Nat)) (hQ : ∀ u v, (u, v) ∈ Q → u < w * t ∧ v < w * t) :
    (∃ a b, a < t ∧ b < t ∧ Cn (fun u v => (u, v) ∈ Q) (a * w) (b * w + (w - 1))) ↔ Cn (fun u v => (u, v) ∈ Q ++ sideQ w (w * t) t) (w * t) (w * t + 1) := by
  constructor
  · rintro ⟨a, b, ha, hb, c⟩
    have e1 : Cn (fun u v => (u, v) ∈ Q ++ sideQ w (w * t) t) (w * t) (a * w) := .one (List.mem_append_right _ (sideQ_mem.2 ⟨a, ha, .inl ⟨rfl, rfl⟩⟩))
    have e2 : Cn (fun u v => (u, v) ∈ Q ++ sideQ w (w * t) t) (w * t + 1) (b * w + (w - 1)) := .one (List.mem_append_right _ (sideQ_mem.2 ⟨b, hb, .inr ⟨rfl, rfl⟩⟩))
    exact (e1.trans (c.mono fun u v h => List.mem_append_left _ h)).trans e2.symm
  · intro c
    refine Classical.byContradiction fun hno => ?_
    have := (c.const (fun x => x = w * t ∨ (x < w * t ∧ ∃ a, a < t ∧ Cn (fun u v => (u, v) ∈ Q) (a * w) x)) fun u v h => ?_).1 (.inl rfl)
    · rcases this with q | ⟨q, _⟩ <;> omega
    · rcases List.mem_append.1 h with h | h
      · obtain ⟨h1, h2⟩ := hQ u v h
        constructor
        · rintro (q | ⟨_, a, ha, q⟩)
          · omega
          · exact .inr ⟨h2, a, ha, .fwd q h⟩
        · rintro (q | ⟨_, a, ha, q⟩)
          · omega
          · exact .inr ⟨h1, a, ha, .bwd q h⟩
      · obtain ⟨r, hr, ⟨rfl, rfl⟩ | ⟨rfl, rfl⟩⟩ := sideQ_mem.1 h
        · have := col_lt hw hr
          exact ⟨fun _ => .inr ⟨this.1, r, hr, .refl _⟩, fun _ => .inl rfl⟩
        · have := col_lt hw hr
          constructor
          · rintro (q | ⟨q, _⟩) <;> omega
          · rintro (q | ⟨_, a, ha, q⟩)
            · omega
            · exact absurd ⟨a, r, ha, hr, q⟩ hno

set_option maxHeartbeats 1000000 in
theorem g_law30_WrappingSpan_true (a0 a1 : Int) (s : Sl) (h : Hp) (K : Bool → Hp → Prop) (w0 : 0 ≤ a0 ∧ a0 ≤ 255) (w1 : 0 ≤ a1 ∧ a1 ≤ 255) {M2 : List Value} (hr : Rd h 1 s M2) (hy : s.n ≤ 2 ^ 63 - 1)
    (hm : ∀ i j l, i < s.n → (List.replicate 1 (LK.int .u16))[j]? = some l → ∃ v, M2[i * 1 + j]? = some v ∧ okCell l v) (hK : ∀ h', K true h') : g_law30_WrappingSpan a0 a1 s h K := by
  obtain ⟨l, rfl, hl⟩ := kints_of (.inr rfl) hr.len hm
  obtain ⟨A, rfl⟩ : ∃ A : Nat, a0 = A := ⟨a0.toNat, by omega⟩
  obtain ⟨B, rfl⟩ : ∃ B : Nat, a1 = B := ⟨a1.toNat, by omega⟩
  unfold g_law30_WrappingSpan
  refine sizes_spec (by omega) (by omega) _ _ ?_
  obtain ⟨w, hw⟩ : ∃ w, w = 1 + A % 12 := ⟨_, rfl⟩
  obtain ⟨t, ht⟩ : ∃ t, t = 1 + B % 12 := ⟨_, rfl⟩
  rw [← hw, ← ht]
  have hw1 : 1 ≤ w ∧ w ≤ 12 := by omega
  have ht1 : 1 ≤ t ∧ t ≤ 12 := by omega
  clear hw ht
  have hn : w * t ≤ 144 := Nat.mul_le_mul hw1.2 ht1.2
  have hn1 : 1 ≤ w * t := Nat.mul_le_mul hw1.1 ht1.1
  have e1 : IntKind.i64.wrap ((w : Int) * t) = ((w * t : Nat) : Int) := by rw [← Int.natCast_mul, w64n (by omega)]
  have e2 : IntKind.i64.wrap (((w * t : Nat) : Int) + 2) = ((w * t + 2 : Nat) : Int) := by rw [w64_eq (by omega) (by omega)]; omega
  have e3 : IntKind.i64.wrap (((w * t : Nat) : Int) + 1) = ((w * t + 1 : Nat) : Int) := w64s (by omega)
  have e4 : IntKind.i64.wrap ((w : Int) - 1) = ((w - 1 : Nat) : Int) := by rw [w64_eq (by omega) (by omega)]; omega
  have e5 : IntKind.i64.wrap ((t : Int) - 1) = ((t - 1 : Nat) : Int) := by rw [w64_eq (by omega) (by omega)]; omega
  simp only [w64, e1, e2, e3, e4, e5]
  refine edges_spec hn1 (by omega) hl true hr (by have := hr.len; rw [kints_len] at this; omega) _ fun s1 h5 M1 l1 f5 i1 _ o1 n1 => ?_
  have z5 := f5.size
  have hM1 : ∀ e ∈ M1, e < 2 * (w * t) := fun e he => bE_lt hn1 ((i1 e).1 he)
  have hsn : s1.n = M1.length := by have := l1.1; rw [ints_len, nats_len] at this; omega
  have rr : ∀ {g : Hp}, Fr h5.size h5 g → Rd g 1 s1 (ints (nats M1)) := fun fg => l1.rd.fr fg
  refine jn_of (fun st g => Fr h5.size h5 g ∧ Lst g 3 st.1 (ints (fl3 (opQ w t M1))) h5.size) ?_ fun K8 hK8 => ?_
  case refine_2 =>
    refine for_of M1.length (fun k (st : Sl × Int × Unit) g => st.2.1 = (k : Int) ∧ Fr h5.size h5 g ∧ Lst g 3 st.1 (ints (fl3 (opQ w t (M1.take k)))) h5.size) ?_ ⟨rfl, Fr.refl _ _, by simpa [opQ, fl3, ints] using Lst.nil _ _ _⟩
    rintro k Kr ⟨so, st, u⟩ g hk ⟨h0, fg, lo⟩ hKr
    simp only at h0 lo
    subst h0
    refine cnd_of (fun c => ?_) fun c => ?_
    · simp only [decide_eq_true_eq, hsn, Int.ofNat_eq_natCast] at c
      have hkl : k < M1.length := by omega
      have hel : gt M1 k < 2 * (w * t) := hM1 _ (gt_mem _ hkl)
      have hql := opQ_le w t (M1.take k)
      have htl : (M1.take k).length = k := by rw [List.length_take]; omega
      have hno := lo.fl3n
      refine get1_spec (rr fg) hkl _ ⟨by omega, ?_⟩
      have htk : M1.take (k + 1) = M1.take k ++ [gt M1 k] := by
        rw [List.take_succ_eq_append_getElem hkl]; simp [gt, List.getD, List.getElem?_eq_getElem hkl]
      have t1 : IntKind.i64.wrap (Int.tdiv ((gt M1 k : Nat) : Int) 2) = ((gt M1 k / 2 : Nat) : Int) := by rw [Int.tdiv_eq_ediv_of_nonneg (by omega)]; rw [w64_eq (by omega) (by omega)]; omega
      have t2 : Int.tmod ((gt M1 k / 2 : Nat) : Int) (w : Int) = ((gt M1 k / 2 % w : Nat) : Int) := by rw [Int.tmod_eq_emod_of_nonneg (by omega), ← Int.natCast_emod]
      have t3 : IntKind.i64.wrap (Int.tdiv ((gt M1 k / 2 : Nat) : Int) (w : Int)) = ((gt M1 k / 2 / w : Nat) : Int) := by
        rw [Int.tdiv_eq_ediv_of_nonneg (by omega), ← Int.natCast_ediv, w64n]
        exact Nat.le_trans (Nat.div_le_self _ _) (by omega)
      have t4 : Int.tmod ((gt M1 k : Nat) : Int) 2 = ((gt M1 k % 2 : Nat) : Int) := by rw [Int.tmod_eq_emod_of_nonneg (by omega)]; omega
      have t5 : IntKind.i64.wrap (((gt M1 k / 2 : Nat) : Int) + 1) = ((gt M1 k / 2 + 1 : Nat) : Int) := w64s (by omega)
      have t6 : IntKind.i64.wrap (((gt M1 k / 2 : Nat) : Int) + w) = ((gt M1 k / 2 + w : Nat) : Int) := by rw [w64_eq (by omega) (by omega)]; omega
      have t7 : IntKind.i64.wrap ((k : Int) + 1) = ((k + 1 : Nat) : Int) := w64s (by omega)
      simp only [t1, t2, t3, t5, t6, t7]
      have fin : ∀ (s' : Sl) (g' : Hp), Fr h5.size h5 g' → Lst g' 3 s' (ints (fl3 (opQ w t (M1.take k) ++ opE w t (gt M1 k)))) h5.size → Kr (s', ((k + 1 : Nat) : Int), ()) g' := fun s' g' f' l' => hKr hkl _ _ ⟨rfl, f', by rw [htk, opQ_succ]; exact l'⟩
      have fr' : ∀ {s' : Sl} {g1 g' : Hp} {Q : List (Nat × Nat)}, Lst g1 3 s' (ints (fl3 Q)) h5.size → Fr h5.size h5 g1 → g1.size ≤ g'.size → (∀ c, c < g1.size → Go.Hx.nb s' c → g'.blk c = g1.blk c) → Fr h5.size h5 g' := fun {s' g1 g' Q} l1 f1 z kk => ⟨by have := f1.size; omega, fun y hy => by rw [kk y (by have := f1.size; omega) fun x hx => by have := (l1.blk_lt hx).1; omega, f1.blk y hy]⟩
      refine jn_of (fun s' g' => Fr h5.size h5 g' ∧ Lst g' 3 s'.1 (ints (fl3 (opQ w t (M1.take k) ++ if gt M1 k % 2 = 0 ∧ gt M1 k / 2 % w < w - 1 then [(gt M1 k / 2, gt M1 k / 2 + 1)] else []))) h5.size) ?_ fun K40 hK40 => ?_
      case refine_2 =>
        refine get1_spec (rr fg) hkl _ ⟨by omega, ?_⟩
        rw [t4]
        refine cnd_of (fun c1 => ⟨by omega, cnd_of (fun c2 => ?_) fun c2 => hK40 _ _ ⟨fg, ?_⟩⟩) fun c1 => hK40 _ _ ⟨fg, ?_⟩
        · simp only [beq_iff_eq, decide_eq_true_eq] at c1 c2
          refine app3_spec [(gt M1 k / 2, gt M1 k / 2 + 1)] lo fg.size (by omega) (by simp) fun s' g' l' z' k' => hK40 _ _ ⟨fr' lo fg z' fun c hc hb => (k' c hc hb).1, ?_⟩
          rw [if_pos ⟨by omega, by omega⟩]; exact l'
        · simp only [decide_eq_false_iff_not] at c2
          rw [if_neg (by omega), List.append_nil]; exact lo
        · simp only [beq_eq_false_iff_ne] at c1
          rw [if_neg (by omega), List.append_nil]; exact lo
      rintro ⟨s2, u⟩ g2 ⟨fg2, lo2⟩
      simp only at lo2
      have hno2 := lo2.fl3n
      have hl2 : s2.n ≤ 301 := by rw [hno2, List.length_append]; split <;> simp <;> omega
      refine get1_spec (rr fg2) hkl _ ⟨by omega, ?_⟩
      rw [t4]
      refine cnd_of (fun c1 => ⟨by omega, cnd_of (fun c2 => ?_) fun c2 => fin _ _ fg2 ?_⟩) fun c1 => fin _ _ fg2 ?_
      · simp only [beq_iff_eq, decide_eq_true_eq] at c1 c2
        refine app3_spec [(gt M1 k / 2 + w, gt M1 k / 2)] lo2 fg2.size (Nat.lt_of_le_of_lt hl2 (by decide)) (by simp) fun s' g' l' z' k' => fin _ _ (fr' lo2 fg2 z' fun c hc hb => (k' c hc hb).1) ?_
        unfold opE
        rw [if_pos (show gt M1 k % 2 = 1 ∧ gt M1 k / 2 / w < t - 1 from ⟨by omega, by omega⟩), ← List.append_assoc]; exact l'
      · simp only [decide_eq_false_iff_not] at c2
        unfold opE
        rw [if_neg (show ¬ (gt M1 k % 2 = 1 ∧ gt M1 k / 2 / w < t - 1) by omega), List.append_nil]; exact lo2
      · simp only [beq_eq_false_iff_ne] at c1
        unfold opE
        rw [if_neg (show ¬ (gt M1 k % 2 = 1 ∧ gt M1 k / 2 / w < t - 1) by omega), List.append_nil]; exact lo2
    · simp only [decide_eq_false_iff_not, hsn, Int.ofNat_eq_natCast] at c
      obtain rfl : k = M1.length := by omega
      rw [List.take_length] at lo
      exact hK8 _ _ ⟨fg, lo⟩
  rintro ⟨s6, u⟩ h7 ⟨f7, l7⟩
  simp only at l7
  have n6 := l7.fl3n
  have hql := opQ_le w t M1
  have qok := opQ_ok hw1.1 hM1
  have ok6 : GOk ((w * t : Nat) : Int) s6.n (fl3 (opQ w t M1)) := by rw [n6]; exact fl3_ok (fun u v h => qok u v h) (by omega) (by omega)
  have nat : ∀ {w' t' : Nat}, (w : Int) = w' → (t : Int) = t' → w = w' ∧ t = t' := fun h1 h2 => by omega
  refine Spans_spec _ _ _ _ h7 l7.eta.rd _ (fun g => absurd ⟨by omega, by omega, by rw [← Int.natCast_mul]; omega⟩ g) (fun w' t' e h' hx hy _ ge _ => ?_) fun w' t' b h11 L hx hy _ _ lc f11 hb => ?_
  · obtain ⟨rfl, rfl⟩ := nat hx hy
    exact absurd ok6 ge.not
  obtain ⟨rfl, rfl⟩ := nat hx hy
  clear hx hy
  have z7 := f7.size; have z11 := f11.size
  have l11 := l7.fr f11
  refine jn_of (fun st g => h11.size ≤ g.size ∧ Lst g 3 st.1 (ints (fl3 (opQ w t M1 ++ sideQ w (w * t) t))) h5.size) ?_ fun K14 hK14 => ?_
  case refine_2 =>
    refine for_of t (fun k (st : Sl × Int × Unit) g => st.2.1 = (k : Int) ∧ h11.size ≤ g.size ∧ Lst g 3 st.1 (ints (fl3 (opQ w t M1 ++ sideQ w (w * t) k))) h5.size) ?_ ⟨rfl, Nat.le_refl _, by simpa [sideQ] using l11.eta⟩
    rintro k Kr ⟨so, st, u⟩ g hk ⟨h0, zg, lo⟩ hKr
    simp only at h0 lo
    subst h0
    refine cnd_of (fun c => ?_) fun c => ?_
    · simp only [decide_eq_true_eq] at c
      have hkt : k < t := by omega
      have hc := col_lt hw1.1 hkt
      have y1 : IntKind.i64.wrap ((k : Int) * w) = ((k * w : Nat) : Int) := by rw [← Int.natCast_mul, w64n (by omega)]
      have y2 : IntKind.i64.wrap (((k * w : Nat) : Int) + w) = ((k * w + w : Nat) : Int) := by rw [← Int.natCast_add, w64n (by omega)]
      have y3 : IntKind.i64.wrap (((k * w + w : Nat) : Int) - 1) = ((k * w + (w - 1) : Nat) : Int) := by rw [w64_eq (by omega) (by omega)]; omega
      have hno := lo.fl3n
      rw [List.length_append, sideQ_len] at hno
      simp only [y1, y2, y3]
      refine app3_spec [(w * t, k * w), (w * t + 1, k * w + (w - 1))] lo (by omega) (by omega) (by simp) fun s' g' l' z' k' => hKr hkt _ _ ⟨?_, by omega, ?_⟩
      · simp only; rw [w64s (by omega)]
      · rw [sideQ_succ, ← List.append_assoc]; exact l'
    · simp only [decide_eq_false_iff_not] at c
      obtain rfl : k = t := by omega
      exact hK14 _ _ ⟨zg, lo⟩
  rintro ⟨s12, u⟩ h13 ⟨z13, l13⟩
  simp only at l13
  have n12 := l13.fl3n
  have hq2 : (opQ w t M1 ++ sideQ w (w * t) t).length ≤ 400 := by rw [List.length_append, sideQ_len]; omega
  have ok12 : GOk ((w * t + 2 : Nat) : Int) s12.n (fl3 (opQ w t M1 ++ sideQ w (w * t) t)) := by
    rw [n12]
    refine fl3_ok (fun u v h => ?_) (by omega) (by omega)
    rcases List.mem_append.1 h with h | h
    · have := qok u v h; omega
    · obtain ⟨r, hr, ⟨rfl, rfl⟩ | ⟨rfl, rfl⟩⟩ := sideQ_mem.1 h
      · have := col_lt hw1.1 hr; omega
      · have := col_lt hw1.1 hr; omega
  refine gNew_spec _ _ _ h13 l13.eta.rd _ (fun e h' _ ge => absurd ok12 ge.not) fun N h17 o eN _ d17 lo17 f17 => cnd_f rfl (cnd_f rfl ?_)
  obtain rfl : w * t + 2 = N := by omega
  refine gLabels_spec d17 _ fun s18 h19 L2 l19 lc2 f19 => ?_
  have hl2 := lc2.len
  have n18 : s18.n = L2.length := by have := l19.1; rw [ints_len, nats_len] at this; omega
  refine cnd_t (by rw [n18, hl2]; simp) (get1_spec l19.rd (by omega) _ (get1_spec l19.rd (by omega) _ (cnd_t ?_ (works_spec _ _ fun h' _ => hK h'))))
  have key : spB w t L ↔ gt L2 (w * t) = gt L2 (w * t + 1) := by
    rw [lc2.iff (by omega) (by omega)]
    have p1 : eP (fl3 (opQ w t M1)) s6.n = fun u v => (u, v) ∈ opQ w t M1 := by
      rw [n6]; funext u v; exact propext (fl3_eP _ u v)
    have p2 : eP (fl3 (opQ w t M1 ++ sideQ w (w * t) t)) s12.n = fun u v => (u, v) ∈ opQ w t M1 ++ sideQ w (w * t) t := by
      rw [n12]; funext u v; exact propext (fl3_eP _ u v)
    have lc' : LC (eP (fl3 (opQ w t M1)) s6.n) (w * t) L := lc
    rw [p1] at lc'
    have lc2' : LC (eP (fl3 (opQ w t M1 ++ sideQ w (w * t) t)) s12.n) (w * t + 2) L2 := lc2
    show _ ↔ Cn (eP (fl3 (opQ w t M1 ++ sideQ w (w * t) t)) s12.n) _ _
    rw [p2, ← span_iff hw1.1 (opQ w t M1) fun u v h => ⟨(qok u v h).1, (qok u v h).2.1⟩]
    constructor
    · rintro ⟨a, b, ha, hb, e⟩
      exact ⟨a, b, ha, hb, (lc'.iff (col_lt hw1.1 ha).1 (col_lt hw1.1 hb).2).1 e⟩
    · rintro ⟨a, b, ha, hb, e⟩
      exact ⟨a, b, ha, hb, (lc'.iff (col_lt hw1.1 ha).1 (col_lt hw1.1 hb).2).2 e⟩
  rw [beq_iff_eq, Bool.eq_iff_iff, beq_iff_eq]
  refine (hb.trans key).trans ?_
  omega

end Go.Hx
