/- Lists of numbers beside each other; around; strengths. No condition. -/
import Derived.Test.YthohhnnjpaepnaaHxGrH
namespace Go.Hx
set_option linter.unusedSimpArgs false
set_option linter.unusedVariables false

theorem getD_all {l l' : List Int} {k : Nat} (hk : 0 < k) (h : l.length = l'.length) : l = l' ↔ ∀ i j, i * k + j < l.length → j < k → l.getD (i * k + j) 0 = l'.getD (i * k + j) 0 := by
  constructor
  · rintro rfl i j _ _; rfl
  · intro hg
    refine list_getD h fun i hi => ?_
    have := hg (i / k) (i % k) (by rw [Nat.mul_comm, Nat.div_add_mod]; exact hi) (Nat.mod_lt _ hk)
    rwa [Nat.mul_comm, Nat.div_add_mod] at this

theorem numbers_spec {h : Hp} {s t : Sl} {p q : List Int} (h1 : Rd h 1 s (ints p)) (h2 : Rd h 1 t (ints q)) (hp : p.length < 2 ^ 40) (K : Bool → Hp → Prop) (hK : ∀ b, (b = true ↔ p = q) → K b h) : g_law13_numbers s t h K := by
  have l1 := h1.ilen; have l2 := h2.ilen
  unfold g_law13_numbers
  refine cnd_of (fun c => hK _ ⟨fun e => (by cases e), fun e => ?_⟩) fun c => ?_
  · subst e
    simp only [bne_iff_ne, ne_eq, Int.ofNat_eq_natCast] at c; omega
  have hlen : p.length = q.length := by
    simp only [bne_eq_false_iff_eq, Int.ofNat_eq_natCast] at c; omega
  refine for_of p.length (fun i (st : Int × Unit) g => st.1 = (i : Int) ∧ g = h ∧ ∀ j, j < i → p.getD j 0 = q.getD j 0) ?_ ⟨rfl, rfl, fun j hj => by omega⟩
  rintro i Kr ⟨st, _⟩ g hi ⟨rfl, rfl, hj⟩ hKr
  refine cnd_of (fun c2 => ?_) fun c2 => ?_
  · simp only [decide_eq_true_eq, Int.ofNat_eq_natCast] at c2
    refine ix_ld1 h1 (by omega) (by omega) rfl (ix_ld1 h2 (by omega) (by omega) rfl ?_)
    simp only [Int.toNat_natCast]
    refine cnd_of (fun c3 => hK _ ⟨fun e => (by cases e), fun e => ?_⟩) fun c3 => hKr (by omega) _ _ ⟨?_, rfl, fun j hj' => ?_⟩
    · subst e; simp at c3
    · simp only; rw [w64, w64s (by omega)]
    · by_cases e : j = i
      · subst e; simpa only [bne_eq_false_iff_eq] using c3
      · exact hj j (by omega)
  · refine hK _ ⟨fun _ => ?_, fun _ => rfl⟩
    simp only [decide_eq_false_iff_not, Int.ofNat_eq_natCast] at c2
    exact list_getD hlen fun j h3 => hj j (by omega)

theorem pairs_spec {h : Hp} {s t : Sl} {p q : List Int} (h1 : Rd h 2 s (ints p)) (h2 : Rd h 2 t (ints q)) (hp : p.length < 2 ^ 40) (K : Bool → Hp → Prop) (hK : ∀ b, (b = true ↔ p = q) → K b h) : g_law13_pairs s t h K := by
  have l1 := h1.ilen; have l2 := h2.ilen
  unfold g_law13_pairs
  refine cnd_of (fun c => hK _ ⟨fun e => (by cases e), fun e => ?_⟩) fun c => ?_
  · subst e
    simp only [bne_iff_ne, ne_eq, Int.ofNat_eq_natCast] at c; omega
  have hlen : p.length = q.length := by
    simp only [bne_eq_false_iff_eq, Int.ofNat_eq_natCast] at c; omega
  refine for_of s.n (fun i (st : Int × Unit) g => st.1 = (i : Int) ∧ g = h ∧ ∀ j, j < i → p.getD (j * 2) 0 = q.getD (j * 2) 0 ∧ p.getD (j * 2 + 1) 0 = q.getD (j * 2 + 1) 0) ?_ ⟨rfl, rfl, fun j hj => by omega⟩
  rintro i Kr ⟨st, _⟩ g hi ⟨rfl, rfl, hj⟩ hKr
  refine cnd_of (fun c2 => ?_) fun c2 => ?_
  · simp only [decide_eq_true_eq, Int.ofNat_eq_natCast] at c2
    refine ix_rd h1 (by omega) (by omega) (by omega) fun a ha hc => ?_
    have x0 := hc 0 (by omega); have x1 := hc 1 (by omega)
    simp only [add_add _ _ _ ha, Int.toNat_natCast, Nat.add_zero] at x0 x1 ⊢
    refine ldI_of x0 (ldI_of x1 (ix_rd h2 (by omega) (by omega) (by simp only [bne_eq_false_iff_eq, Int.ofNat_eq_natCast] at c; omega) fun b hb hd => ?_))
    have y0 := hd 0 (by omega); have y1 := hd 1 (by omega)
    simp only [add_add _ _ _ hb, Int.toNat_natCast, Nat.add_zero] at y0 y1 ⊢
    refine ldI_of y0 (ldI_of y1 (cnd_of (fun c3 => hK _ ⟨fun e => (by cases e), fun e => ?_⟩) fun c3 => hKr (by omega) _ _ ⟨?_, rfl, fun j hj' => ?_⟩))
    · subst e; simp at c3
    · simp only; rw [w64, w64s (by omega)]
    · by_cases e : j = i
      · subst e
        simpa using c3
      · exact hj j (by omega)
  · refine hK _ ⟨fun _ => ?_, fun _ => rfl⟩
    simp only [decide_eq_false_iff_not, Int.ofNat_eq_natCast] at c2
    refine (getD_all (k := 2) (by omega) hlen).2 fun i j hij hj2 => ?_
    have := hj i (by omega)
    obtain rfl | rfl : j = 0 ∨ j = 1 := by omega
    · exact this.1
    · exact this.2

theorem edges_spec {h : Hp} {s t : Sl} {p q : List Int} (h1 : Rd h 3 s (ints p)) (h2 : Rd h 3 t (ints q)) (hp : p.length < 2 ^ 40) (K : Bool → Hp → Prop) (hK : ∀ b, (b = true ↔ p = q) → K b h) : g_law13_edges s t h K := by
  have l1 := h1.ilen; have l2 := h2.ilen
  unfold g_law13_edges
  refine cnd_of (fun c => hK _ ⟨fun e => (by cases e), fun e => ?_⟩) fun c => ?_
  · subst e
    simp only [bne_iff_ne, ne_eq, Int.ofNat_eq_natCast] at c; omega
  have hlen : p.length = q.length := by
    simp only [bne_eq_false_iff_eq, Int.ofNat_eq_natCast] at c; omega
  refine for_of s.n (fun i (st : Int × Unit) g => st.1 = (i : Int) ∧ g = h ∧ ∀ j, j < i → p.getD (j * 3) 0 = q.getD (j * 3) 0 ∧ p.getD (j * 3 + 1) 0 = q.getD (j * 3 + 1) 0 ∧ p.getD (j * 3 + 2) 0 = q.getD (j * 3 + 2) 0) ?_ ⟨rfl, rfl, fun j hj => by omega⟩
  rintro i Kr ⟨st, _⟩ g hi ⟨rfl, rfl, hj⟩ hKr
  refine cnd_of (fun c2 => ?_) fun c2 => ?_
  · simp only [decide_eq_true_eq, Int.ofNat_eq_natCast] at c2
    refine ix_rd h1 (by omega) (by omega) (by omega) fun a ha hc => ?_
    have x0 := hc 0 (by omega); have x1 := hc 1 (by omega); have x2 := hc 2 (by omega)
    simp only [add_add _ _ _ ha, Int.toNat_natCast, Nat.add_zero] at x0 x1 x2 ⊢
    refine ldI_of x0 (ldI_of x1 (ldI_of x2 (ix_rd h2 (by omega) (by omega) (by simp only [bne_eq_false_iff_eq, Int.ofNat_eq_natCast] at c; omega) fun b hb hd => ?_)))
    have y0 := hd 0 (by omega); have y1 := hd 1 (by omega); have y2 := hd 2 (by omega)
    simp only [add_add _ _ _ hb, Int.toNat_natCast, Nat.add_zero] at y0 y1 y2 ⊢
    refine ldI_of y0 (ldI_of y1 (ldI_of y2 (cnd_of (fun c3 => hK _ ⟨fun e => (by cases e), fun e => ?_⟩) fun c3 => hKr (by omega) _ _ ⟨?_, rfl, fun j hj' => ?_⟩)))
    · subst e; simp at c3
    · simp only; rw [w64, w64s (by omega)]
    · by_cases e : j = i
      · subst e
        simpa using c3
      · exact hj j (by omega)
  · refine hK _ ⟨fun _ => ?_, fun _ => rfl⟩
    simp only [decide_eq_false_iff_not, Int.ofNat_eq_natCast] at c2
    refine (getD_all (k := 3) (by omega) hlen).2 fun i j hij hj2 => ?_
    have := hj i (by omega)
    obtain rfl | rfl | rfl : j = 0 ∨ j = 1 ∨ j = 2 := by omega
    · exact this.1
    · exact this.2.1
    · exact this.2.2

section
variable {h : Hp} {o : GOb} {n m : Nat} {M : List Int}

theorem upd_at (h : Hp) (l : Nat) (x : Option Blk) : (h.upd l x).blk l = x := by simp [Hp.upd]
theorem upd_ne (h : Hp) {l c : Nat} (x : Option Blk) (hc : c ≠ l) : (h.upd l x).blk c = h.blk c := by simp [Hp.upd, hc]
theorem pushB_at (h : Hp) (x : Option Blk) : (h.pushB x).blk h.size = x := by simp [Hp.pushB]
theorem pushB_ne (h : Hp) {c : Nat} (x : Option Blk) (hc : c ≠ h.size) : (h.pushB x).blk c = h.blk c := by simp [Hp.pushB, hc]

/-- The record of a round is set. -/
theorem lpRound {g : Hp} {l : Nat} {r r' : Loop} {K : Hp → Prop} (hl : g.blk l = some (.lp r)) (H : ∀ g1 : Hp, g1.size = g.size → g1.blk l = some (.lp r') → (∀ c, c ≠ l → g1.blk c = g.blk c) → K g1) : lpIs g l r (lpSet g l r' K) :=
  ⟨hl, H _ rfl (upd_at ..) fun c hc => upd_ne g _ hc⟩
theorem lpRound2 {g : Hp} {l : Nat} {r r' : Loop} {K : Hp → Prop} (hl : g.blk l = some (.lp r)) (H : ∀ g1 : Hp, g1.size = g.size → g1.blk l = some (.lp r') → (∀ c, c ≠ l → g1.blk c = g.blk c) → K g1) : lpIs g l r (lpIs g l r (lpSet g l r' K)) :=
  ⟨hl, lpRound hl H⟩

/-- Where around stands. -/
structure ArI (hb : Hp) (a1 a3 l : Nat) (most : Int) (q : List Int) (r : Loop) (g : Hp) : Prop where
  sz : hb.size + 2 ≤ g.size
  kp : ∀ c, c < hb.size → c ≠ a3 → g.blk c = hb.blk c
  lp : g.blk l = some (.lp r)
  ex : ∃ so, g.blk a3 = some (.cells [.slice so.a so.n so.c]) ∧ Lst g 2 so (ints q) (hb.size + 2)

set_option maxHeartbeats 1000000 in
theorem around_spec (d : GS h o n m M) (v most : Int) (hm0 : -9223372036854775808 ≤ most ∧ most ≤ 9223372036854775807) (K : Sl → Hp → Prop)
    (hK : ∀ s h' P, (¬ (0 ≤ v ∧ v < (n : Int)) → P = []) → (∀ u : Nat, v = u → u < n → P = arH M m u) → Lst h' 2 s (ints (fl2 hE (hV M) (P.take most.toNat))) h.size → Fr h.size h h' → K s h') : g_law13_around (some ⟨o.a, 0, none⟩) v most h K := by
  obtain ⟨nb1, nb2⟩ := d.nb
  unfold g_law13_around
  refine alo_of fun h2 z2 b2 k2 => alo_of fun h4 z4 b4 k4 => ?_
  have f4 : Fr h.size h h4 := ⟨by omega, fun c hc => by rw [k4 c (by omega), k2 c hc]⟩
  refine gAround_spec (d.fr f4) v _ fun c s P h6 hP1 hP2 rs sn bc c0 c1 hsb f6 r7 => ?_
  have z6 := f6.size
  have dhi := d.hi
  obtain ⟨H0, hH0⟩ : ∃ H0 : Hp, H0 = (h6.pushB none).pushB (some (.lp r7)) := ⟨_, rfl⟩
  rw [← hH0]
  have zH : H0.size = h6.size + 2 := by rw [hH0]; rfl
  have HL : H0.blk (h6.size + 1) = some (.lp r7) := by rw [hH0]; exact pushB_at (h6.pushB none) _
  have HK : ∀ y, y < h6.size → H0.blk y = h6.blk y := fun y hy => by
    rw [hH0, pushB_ne _ _ (by show y ≠ h6.size + 1; omega), pushB_ne _ _ (by omega)]
  have b1' : h6.blk h.size = some (.cells [.int .i64 most]) := by rw [f6.blk _ (by omega), k4 _ (by omega), b2]
  have b3' : h6.blk h2.size = some (.cells [.slice none 0 0]) := by rw [f6.blk _ (by omega), b4]
  have Pl : P.length ≤ 2 * m := by
    by_cases q : 0 ≤ v ∧ v < (n : Int)
    · rw [hP2 v.toNat (by omega) (by omega), arH_len]
      have := cntB_le (VX M m).length fun k => gt (VX M m) k == v.toNat
      rw [VX_len] at this; unfold szp; rw [VX_len]; exact this
    · rw [hP1 q]; simp
  have fin : ∀ (r : Loop) (g : Hp) (q : Nat), ArI h6 h.size h2.size (h6.size + 1) most (fl2 hE (hV M) (P.take q)) r g → P.take q = P.take most.toNat → ∀ r', lpIs g (h6.size + 1) r (lpSet g (h6.size + 1) r' fun h25 => ldS h25 ⟨h2.size, 0, none⟩ fun s26 => K s26 h25) := fun r g q ⟨x1, x2, x3, so, x4, x5⟩ hq r' => by
    refine lpRound x3 fun g1 z1 l1 k1 => ?_
    refine ldS_of (p := so.a) (n := so.n) (c := so.c) (by rw [cell_own ((k1 _ (by omega)).trans x4)]; rfl) (hK so g1 P hP1 hP2 ?_ ⟨by omega, fun y hy => ?_⟩)
    · rw [hq] at x5
      exact (x5.keep (by omega) fun x hx => k1 _ (by have := (x5.blk_lt hx).1; omega)).le (by omega)
    · rw [k1 _ (by omega), x2 y (by omega) (by omega), f6.blk y (by omega), f4.blk y hy]
  refine iter2_spec (s := s) (P := fl2 hE (hV M) P) (by omega) (fun k g => ArI h6 h.size h2.size (h6.size + 1) most (fl2 hE (hV M) (P.take k)) r7 g ∧ (k = 0 ∨ (k : Int) ≤ most)) (fun g => ∃ k : Nat, ArI h6 h.size h2.size (h6.size + 1) most (fl2 hE (hV M) (P.take k)) (dne r7 (.exit 0)) g ∧ P.take k = P.take most.toNat) ?_ ?_ ?_ ?_ ?_ ?_ ?_
  · rintro k g ⟨⟨x1, x2, x3, x4⟩, _⟩
    refine ⟨?_, fun x hx hp => by have := hsb x hx; omega⟩
    have := rs.1
    by_cases hz : s.n * 2 = 0
    · rw [hz, seg_zero] at this ⊢; exact this
    · rw [← this]
      exact seg_blk fun x hx => by have := hsb x hx; exact x2 _ (by omega) (by omega)
  · rw [cell_own ((HK c c1).trans bc)]; rfl
  · rintro k g g' ⟨⟨x1, x2, x3, so, x4, x5⟩, hk⟩ f
    have hz := f.size
    exact ⟨⟨by omega, fun y hy hne => (f.blk y (by omega)).trans (x2 y hy hne), (f.blk _ (by omega)).trans x3, so, (f.blk _ (by omega)).trans x4, x5.fr f⟩, hk⟩
  · rintro k g Kr hk ⟨⟨x1, x2, x3, so, x4, x5⟩, hkm⟩ hKr hEr
    have hkP : k < P.length := by omega
    obtain ⟨j, hj⟩ : ∃ j, P[k]? = some j := ⟨_, List.getElem?_eq_getElem hkP⟩
    obtain ⟨e1, e2⟩ := fl2_get (f := hE) (g := hV M) hj
    rw [e1, e2]
    show lpIs g (h6.size + 1) r7 (lpIs g (h6.size + 1) r7 (lpSet g (h6.size + 1) (bsy r7) _))
    refine lpRound2 x3 fun g1 z1 l1 k1 => ?_
    have bo1 : g1.blk h2.size = some (.cells [.slice so.a so.n so.c]) := (k1 _ (by omega)).trans x4
    have bm1 : g1.blk h.size = some (.cells [.int .i64 most]) := (k1 _ (by omega)).trans ((x2 _ (by omega) (by omega)).trans b1')
    have ls1 : Lst g1 2 so (ints (fl2 hE (hV M) (P.take k))) (h6.size + 2) := x5.keep (by omega) fun x hx => k1 _ (by have := (x5.blk_lt hx).1; omega)
    have son := ls1.1
    rw [ints_len, fl2_len, List.length_take] at son
    have son' : so.n = k := by omega
    refine ldS_of (p := so.a) (n := so.n) (c := so.c) (by rw [cell_own bo1]; rfl) (ldI_of (by rw [cell_own bm1]; rfl) (cnd_of (fun cc => ?_) fun cc => ?_))
    · simp only [decide_eq_true_eq, Int.ofNat_eq_natCast] at cc
      refine lpRound l1 fun g2 z2' l2 k2' => hEr g2 ⟨k, ⟨by omega, fun y hy hne => by rw [k2' _ (by omega), k1 _ (by omega), x2 y hy hne], l2, so, (k2' _ (by omega)).trans bo1, ls1.keep (by omega) fun x hx => k2' _ (by have := (ls1.blk_lt hx).1; omega)⟩, ?_⟩
      congr 1; omega
    · simp only [decide_eq_false_iff_not, Int.ofNat_eq_natCast] at cc
      refine ldS_of (p := so.a) (n := so.n) (c := so.c) (by rw [cell_own bo1]; rfl) (alo_of fun g2 z2' b2' k2' => ?_)
      have fr2 : Fr g1.size g1 g2 := ⟨by omega, k2'⟩
      refine app_lst (z := 2) (ls1.fr fr2).eta (by omega) (news := [.int .i64 (hE j), .int .i64 (hV M j)]) (by rw [seg_row (row_own b2') (by simp)]; rfl) (by simp [Value.oneCell]) rfl (by simp only; omega) (by simp only; omega) fun s' g3 l3 n3 z3 f3 k3 a3 => ?_
      have nso : nb so h2.size := fun x hx => by have := (ls1.blk_lt hx).1; omega
      have kb : ∀ y, y < h6.size + 2 → g3.blk y = g1.blk y := fun y hy => by rw [f3.blk y hy, k2' y (by omega)]
      simp only [add_mk, Nat.zero_add]
      refine stc_of ((kb _ (by omega)).trans bo1) (by simp) fun g4 z4' b4' k4' => ?_
      have ls4 : Lst g4 2 s' (ints (fl2 hE (hV M) (P.take (k + 1)))) (h6.size + 2) := by
        have : P.take (k + 1) = P.take k ++ [j] := by rw [List.take_add_one, hj]; rfl
        rw [this, fl2_snoc, ints_app]
        exact l3.keep (by omega) fun x hx => k4' _ (by have := (l3.blk_lt hx).1; omega)
      refine lpRound (r := bsy r7) ?_ fun g5 z5 l5 k5 => hKr g5 ⟨⟨by omega, fun y hy hne => ?_, l5, s', ?_, ?_⟩, .inr (by omega)⟩
      · rw [k4' _ (by omega), kb _ (by omega), l1]
      · rw [k5 _ (by omega), k4' _ hne, kb _ (by omega), k1 _ (by omega), x2 y hy hne]
      · rw [k5 _ (by omega), b4']; rfl
      · exact ls4.keep (by omega) fun x hx => k5 _ (by have := (ls4.blk_lt hx).1; omega)
  · rintro g ⟨ai, hk⟩
    refine .inr (fin r7 g s.n ai ?_ _)
    rw [sn, List.take_length, List.take_of_length_le]
    by_cases q : P.length = 0
    · omega
    · rcases hk with hk | hk <;> omega
  · rintro g ⟨k, ai, hk⟩
    exact .inl (fin (dne r7 (.exit 0)) g k ai hk _)
  · refine ⟨⟨by omega, fun y hy _ => HK y hy, HL, ⟨none, 0, 0⟩, (HK _ (by omega)).trans b3', ?_⟩, .inl rfl⟩
    simpa [fl2, ints] using Lst.nil H0 2 (h6.size + 2)
end

end Go.Hx
