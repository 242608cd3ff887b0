/- GraphSteps over the abstract heap. -/
import Derived.Test.YthohhnnjpaepnaaHxGGraphConnects
namespace Go.Hx
set_option linter.unusedSimpArgs false
set_option linter.unusedVariables false

/-- Cells below a bound that stay. -/
theorem Rd.hi {h h' : Hp} {z hi : Nat} {s : Sl} {cs : List Value} (r : Rd h z s cs) (b : ∀ x, s.a = some x → x.block < hi) (hh : hi ≤ h'.size) (k : ∀ c, c < hi → h'.blk c = h.blk c) : Rd h' z s cs := by
  refine ⟨?_, fun x hx hp => by have := b x hx; omega⟩
  have e := r.1
  by_cases hz : s.n * z = 0
  · rw [hz, seg_zero] at e ⊢; exact e
  · rw [← e]; exact seg_blk fun x hx => k _ (b x hx)

/-- A variable that counts on: a new cell for the next round. -/
theorem nextCell {g : Hp} {x : Int} {K : Addr → Hp → Prop} (H : ∀ g', g'.size = g.size + 1 → g'.blk g.size = some (.cells [.int .i64 (w64 (x + 1))]) → (∀ c, c < g.size → g'.blk c = g.blk c) → K ⟨g.size, 0, none⟩ g') :
    alo g [.int .i64 0] fun a h1 => stc h1 (a.add 0) (.int .i64 x) fun h2 => ldI .i64 h2 a fun n => stc h2 (a.add 0) (.int .i64 (w64 (n + 1))) fun h3 => K a h3 := by
  refine alo_of fun h1 z1 b1 k1 => ?_
  simp only [add_mk, Nat.zero_add]
  refine stc_of b1 (by simp) fun h2 z2 b2 k2 => ?_
  simp only [List.set_cons_zero] at b2
  refine ldI_of (by rw [cell_own b2]; rfl) (stc_of b2 (by simp) fun h3 z3 b3 k3 => H h3 (by omega) b3 fun c hc => by rw [k3 _ (by omega), k2 _ (by omega), k1 _ hc])

/-- The answer is laid into its cell. -/
theorem outB {g : Hp} {a : Nat} {v : Bool} {b : Bool} {K : Bool → Hp → Prop} (hb : g.blk a = some (.cells [.bool b])) (H : ∀ g', K v g') : stc g ((⟨a, 0, none⟩ : Addr).add 0) (.bool v) fun g' => ldB g' ⟨a, 0, none⟩ fun r => K r g' := by
  simp only [add_mk, Nat.zero_add]
  refine stc_of hb (by simp) fun g' z' b' k' => ?_
  simp only [List.set_cons_zero] at b'
  exact ldB_of (by rw [cell_own b']; rfl) (H g')

set_option maxHeartbeats 2000000 in
theorem g_law13_GraphSteps_true (s : Sl) (a1 : Int) (h : Hp) (K : Bool → Hp → Prop) {C : List Value} (hr : Rd h 3 s C) (hy : s.n ≤ 2 ^ 63 - 1)
    (hm : ∀ i j l, i < s.n → [LK.int .u8, .int .u8, .int .i8][j]? = some l → ∃ v, C[i * 3 + j]? = some v ∧ okCell l v) (w1 : 0 ≤ a1 ∧ a1 ≤ 255) (hK : ∀ h', K true h') : g_law13_GraphSteps s a1 h K := by
  have hC := lkC hm
  obtain ⟨v, e1, hv⟩ := u8m a1 w1
  unfold g_law13_GraphSteps
  rw [e1]
  refine alo_of fun h2 z2 b2 k2 => ?_
  refine cnd_of (fun c => works13_spec h2 _ fun h' f' => outB ((f'.blk _ (by omega)).trans b2) hK) fun c => ?_
  simp only [decide_eq_false_iff_not, Int.ofNat_eq_natCast] at c
  have f2 : Fr h.size h h2 := ⟨by omega, k2⟩
  refine made_spec (hr.fr f2) (by omega) hC _ fun o m h8 bl hm d8 lo f8 => cnd_f rfl ⟨by omega, ?_⟩
  have z8 := f8.size
  refine gDist_spec d8 v _ (fun q => absurd (by omega) q) fun v' r11 h12 W ev _ l12 dis hWn f12 => ?_
  obtain rfl : v' = v := by omega
  have z12 := f12.size
  have r11n : r11.n = 40 := by have := l12.1; rw [ints_len, dis.len] at this; omega
  refine alo_of fun h14 z14 b14 k14 => ?_
  simp only [add_mk, Nat.zero_add]
  refine stc_of b14 (by simp) fun h15 z15 b15 k15 => ?_
  simp only [List.set_cons_zero] at b15
  have k15' : ∀ c, c < h12.size → h15.blk c = h12.blk c := fun c hc => by rw [k15 _ (by omega), k14 _ hc]
  have f15 : Fr h12.size h12 h15 := ⟨by omega, k15'⟩
  have l15 := l12.fr f15
  have d15 := (d8.fr f12).fr f15
  have bA : h15.blk h.size = some (.cells [.bool false]) := by rw [k15' _ (by omega), f12.blk _ (by omega), f8.blk _ (by omega)]; exact b2
  obtain ⟨A, hA⟩ : ∃ A, A = h.size := ⟨_, rfl⟩
  obtain ⟨B, hB⟩ : ∃ B, B = h12.size := ⟨_, rfl⟩
  rw [← hA] at bA ⊢
  rw [← hB] at b15 ⊢
  refine ldS_of (p := r11.a) (n := r11.n) (c := r11.c) (by rw [cell_own b15]; rfl) (cnd_f (by simp [r11n]) (ldS_of (p := r11.a) (n := r11.n) (c := r11.c) (by rw [cell_own b15]; rfl) ⟨by omega, ix_ld1 (s := r11) l15.rd (show (0 : Int) ≤ (v' : Int) by omega) (show (v' : Int) < ((r11.n : Nat) : Int) by omega) rfl ?_⟩))
  rw [Int.toNat_natCast, dis.at0]
  refine cnd_f rfl (alo_of fun h25 z25 b25 k25 => ?_)
  refine stc_of b25 (by simp) fun h26 z26 b26 k26 => ?_
  simp only [List.set_cons_zero] at b26
  refine for_of 40 (fun i (t : Addr × Unit) g => ∃ c : Nat, t.1 = ⟨c, 0, none⟩ ∧ h15.size ≤ c ∧ c < g.size ∧ g.blk c = some (.cells [.int .i64 (i : Nat)]) ∧ Fr h15.size h15 g) ?_
    ⟨h15.size, rfl, Nat.le_refl _, by omega, b26, ⟨by omega, fun c hc => by rw [k26 _ (by omega), k25 _ hc]⟩⟩
  rintro i Kr ⟨_, _⟩ g hi ⟨c, rfl, c0, c1, bc, fg⟩ hKr
  have zg := fg.size
  have dg := d15.fr fg
  have hdlo := d15.hi
  refine ldI_of (by rw [cell_own bc]; rfl) (cnd_of (fun ci => ?_) fun ci => works13_spec g _ fun h' f' => outB ((f'.blk _ (by omega)).trans ((fg.blk _ (by omega)).trans bA)) hK)
  simp only [decide_eq_true_eq] at ci
  have hi40 : i < 40 := by omega
  have lg := l15.fr fg
  have W0 := dis.low i hi40
  have W1 := hWn i hi40
  have rdB : ∀ (g' : Hp) (K : Sl → Prop), g'.blk B = g.blk B → K ⟨r11.a, r11.n, r11.c⟩ → ldS g' ⟨B, 0, none⟩ K := fun g' K e hk => ldS_of (p := r11.a) (n := r11.n) (c := r11.c) (by rw [cell_own (e.trans ((fg.blk _ (by omega)).trans b15))]; rfl) hk
  have rdc : ∀ (g' : Hp) (K : Int → Prop), g'.blk c = g.blk c → K (i : Nat) → ldI .i64 g' ⟨c, 0, none⟩ K := fun g' K e hk => ldI_of (by rw [cell_own (e.trans bc)]; rfl) hk
  have rdW : ∀ (g' : Hp) (K : Int → Prop) (w : Nat), g.size ≤ g'.size → (∀ y, y < g.size → g'.blk y = g.blk y) → w < 40 → K (W.getD w 0) → ix r11.a r11.n (w : Int) fun a => ldI .i64 g' (a.add (Int.toNat (w : Int) * 1)) K := fun g' K w hz e hw hk =>
    ix_ld1 (lg.rd.fr ⟨hz, e⟩) (show (0 : Int) ≤ (w : Int) by omega) (by omega) rfl (by rw [Int.toNat_natCast]; exact hk)
  refine rdB g _ rfl (rdc g _ rfl (rdW g _ i (Nat.le_refl _) (fun _ _ => rfl) hi40 (alo_of fun h36 z36 b36 k36 => ?_)))
  refine stc_of b36 (by simp) fun h37 z37 b37 k37 => ?_
  simp only [List.set_cons_zero] at b37
  have k37' : ∀ y, y < g.size → h37.blk y = g.blk y := fun y hy => by rw [k37 _ (by omega), k36 _ hy]
  have f37 : Fr g.size g h37 := ⟨by omega, k37'⟩
  refine rdc h37 _ (k37' _ c1) ?_
  refine gAround_spec (dg.fr f37) (i : Int) _ fun cs s2 P h40 hP1 hP2 rs2 sn2 bcs cs0 cs1 hsb f40 r41 => ?_
  have hPi := hP2 i rfl hi40
  subst hPi
  have z40 := f40.size
  obtain ⟨H0, hH0⟩ : ∃ H0 : Hp, H0 = (h40.pushB none).pushB (some (.lp r41)) := ⟨_, rfl⟩
  rw [← hH0]
  have zH : H0.size = h40.size + 2 := by rw [hH0]; rfl
  have HL : H0.blk (h40.size + 1) = some (.lp r41) := by rw [hH0]; exact pushB_at (h40.pushB none) _
  have HK : ∀ y, y < h40.size → H0.blk y = h40.blk y := fun y hy => by
    rw [hH0, pushB_ne _ _ (by show y ≠ h40.size + 1; omega), pushB_ne _ _ (by omega)]
  obtain ⟨D, hD⟩ : ∃ D, D = g.size := ⟨_, rfl⟩
  rw [← hD] at b37 ⊢
  refine iter2_spec (s := s2) (P := fl2 hE (hV (blt C 40 s.n)) (arH (blt C 40 s.n) m i)) (E := fun _ => False) (by
      rw [sn2, arH_len]
      have := cntB_le (VX (blt C 40 s.n) m).length fun k => gt (VX (blt C 40 s.n) m) k == i
      rw [VX_len] at this; unfold szp; rw [VX_len]; omega)
    (fun j g' => h40.size + 2 ≤ g'.size ∧ (∀ y, y < h40.size → y ≠ D → g'.blk y = h40.blk y) ∧ g'.blk (h40.size + 1) = some (.lp r41) ∧
      ∃ b : Bool, g'.blk D = some (.cells [.bool b]) ∧ (W.getD i 0 ≤ 0 → b = true) ∧ ∀ j', j' < j → ∀ jj, (arH (blt C 40 s.n) m i)[j']? = some jj → W.getD (VO (blt C 40 s.n) jj) 0 = W.getD i 0 - 1 → b = true)
    ?_ ?_ ?_ ?_ ?_ ?_ ?_
  · rintro j g' ⟨zg', kg', _⟩
    exact rs2.hi (hi := o.hi) hsb (by omega) fun y hy => kg' y (by omega) (by omega)
  · rw [cell_own ((HK cs cs1).trans bcs)]; rfl
  · rintro j g' g'' ⟨zg', kg', lp', b, bb, hb1, hb2⟩ f
    have z := f.size
    exact ⟨by omega, fun y hy hne => by rw [f.blk _ (by omega), kg' y hy hne], (f.blk _ (by omega)).trans lp', b, (f.blk _ (by omega)).trans bb, hb1, hb2⟩
  · rintro j g' Kr' hj ⟨zg', kg', lp', b, bb, hb1, hb2⟩ hKr' _
    obtain ⟨jj, hjj⟩ : ∃ jj, (arH (blt C 40 s.n) m i)[j]? = some jj := ⟨_, List.getElem?_eq_getElem (by omega)⟩
    obtain ⟨x1, x2⟩ := fl2_get (f := hE) (g := hV (blt C 40 s.n)) hjj
    have ha := arH_adj (List.mem_of_getElem? hjj)
    have hwn : VO (blt C 40 s.n) jj < 40 := by
      rcases ha with ha | ha
      · exact (d8.pl (Nat.le_refl _) _ _ ha).2
      · exact (d8.pl (Nat.le_refl _) _ _ ha).1
    rw [x1, x2]
    show lpIs g' (h40.size + 1) r41 (lpIs g' (h40.size + 1) r41 (lpSet g' (h40.size + 1) (bsy r41) _))
    refine lpRound2 lp' fun q1 az1 al1 ak1 => ?_
    obtain ⟨w, hw⟩ : ∃ w, w = VO (blt C 40 s.n) jj := ⟨_, rfl⟩
    rw [← hw] at hwn ha
    have hv2 : hV (blt C 40 s.n) jj = ((w : Nat) : Int) := by rw [hw]; rfl
    simp only [projA]
    simp only [hv2]
    have kq : ∀ y, y < g.size → q1.blk y = g.blk y := fun y hy => by rw [ak1 _ (by omega), kg' y (by omega) (by omega), f40.blk _ (by omega), k37' y hy]
    have c1' := dis.low w hwn
    have c2' := hWn w hwn
    have both : (0 ≤ W.getD i 0 ↔ 0 ≤ W.getD w 0) ∧ (W.getD w 0 ≤ W.getD i 0 + 1 ∧ W.getD i 0 ≤ W.getD w 0 + 1) := by
      have y1 := dis.cl i hi40
      have y2 := dis.cl w hwn
      refine ⟨⟨fun q => (y1 q w hwn ha).1, fun q => (y2 q i hi40 ha.symm).1⟩, ?_, ?_⟩
      · by_cases q : 0 ≤ W.getD i 0
        · exact (y1 q w hwn ha).2
        · have : ¬ 0 ≤ W.getD w 0 := fun q' => q (y2 q' i hi40 ha.symm).1
          omega
      · by_cases q : 0 ≤ W.getD w 0
        · exact (y2 q i hi40 ha.symm).2
        · have : ¬ 0 ≤ W.getD i 0 := fun q' => q (y1 q' w hwn ha).1
          omega
    have hz1 : g.size ≤ q1.size := by omega
    have W' : ∀ (K : Int → Prop) (w : Nat), w < 40 → K (W.getD w 0) → ix r11.a r11.n (w : Int) fun a => ldI .i64 q1 (a.add (Int.toNat (w : Int) * 1)) K := fun K w hw hk => rdW q1 K w hz1 kq hw hk
    have B' : ∀ (K : Sl → Prop), K ⟨r11.a, r11.n, r11.c⟩ → ldS q1 ⟨B, 0, none⟩ K := fun K hk => rdB q1 K (kq _ (by omega)) hk
    have c' : ∀ (K : Int → Prop), K (i : Nat) → ldI .i64 q1 ⟨c, 0, none⟩ K := fun K hk => rdc q1 K (kq _ c1) hk
    refine cnd_f (show decide (((w : Nat) : Int) < 0) = false from decide_eq_false (by omega)) (cnd_f (show decide (((w : Nat) : Int) ≥ 40) = false from decide_eq_false (by omega)) ?_)
    refine B' _ (c' _ (W' _ i hi40 (B' _ (W' _ w hwn (cnd_f ?_ ?_)))))
    · rw [Bool.not_eq_false', beq_iff_eq, Bool.eq_iff_iff, decide_eq_true_eq, decide_eq_true_eq]; omega
    refine B' _ (W' _ w hwn (B' _ (c' _ (W' _ i hi40 (cnd_f ?_ ?_)))))
    · rw [w64, w64_eq (by omega) (by omega)]; simp only [decide_eq_false_iff_not]; omega
    refine B' _ (c' _ (W' _ i hi40 (B' _ (W' _ w hwn (cnd_f ?_ ?_)))))
    · rw [w64, w64_eq (by omega) (by omega)]; simp only [decide_eq_false_iff_not]; omega
    refine B' _ (W' _ w hwn (B' _ (c' _ (W' _ i hi40 (cnd_of (fun cc => ?_) fun cc => ?_)))))
    · refine stc_of ((ak1 _ (by omega)).trans bb) (by simp) fun q2 az2 ab2 ak2 => ?_
      simp only [List.set_cons_zero] at ab2
      refine lpRound ((ak2 _ (by omega)).trans al1) fun q3 az3 al3 ak3 => hKr' q3 ⟨by omega, fun y hy hne => by rw [ak3 _ (by omega), ak2 _ hne, ak1 _ (by omega), kg' y hy hne], al3, true, by rw [ak3 _ (by omega)]; exact ab2, fun _ => rfl, fun _ _ _ _ _ => rfl⟩
    · refine lpRound al1 fun q3 az3 al3 ak3 => hKr' q3 ⟨by omega, fun y hy hne => by rw [ak3 _ (by omega), ak1 _ (by omega), kg' y hy hne], al3, b, by rw [ak3 _ (by omega), ak1 _ (by omega)]; exact bb, hb1, fun j' hj' jj' hjj' e => ?_⟩
      by_cases ej : j' = j
      · subst ej
        rw [hjj] at hjj'
        cases hjj'
        rw [← hw] at e
        rw [beq_eq_false_iff_ne, w64, w64_eq (by omega) (by omega)] at cc
        exact absurd e cc
      · exact hb2 j' (by omega) jj' hjj' e
  · rintro g' ⟨zg', kg', lp', b, bb, hb1, hb2⟩
    refine .inr (lpRound lp' fun q2 az2 al2 ak2 => ?_)
    refine ldB_of (by rw [cell_own ((ak2 _ (by omega)).trans bb)]; rfl) ?_
    have hbt : b = true := by
      by_cases q : W.getD i 0 ≤ 0
      · exact hb1 q
      · obtain ⟨u, hu, hadj, hWu⟩ := dis.nxt i hi40 (by omega)
        obtain ⟨jj, hjj, rfl⟩ := adj_arH hadj.symm
        obtain ⟨i', hi', ei⟩ := List.getElem_of_mem hjj
        exact hb2 i' (by omega) jj (by rw [List.getElem?_eq_getElem hi', ei]) hWu
    subst hbt
    have kq : ∀ y, y < g.size → q2.blk y = g.blk y := fun y hy => by rw [ak2 _ (by omega), kg' y (by omega) (by omega), f40.blk _ (by omega), k37' y hy]
    refine cnd_f rfl (rdB q2 _ (kq _ (by omega)) (rdc q2 _ (kq _ c1) (rdW q2 _ i (by omega) kq hi40 ?_)))
    have fin : ∀ g5 : Hp, g5.size = q2.size + 1 → g5.blk q2.size = some (.cells [.int .i64 (w64 ((i : Int) + 1))]) → (∀ y, y < q2.size → g5.blk y = q2.blk y) → Kr (⟨q2.size, 0, none⟩, ()) g5 := fun g5 z5 b5 k5 => by
      refine hKr hi40 _ _ ⟨q2.size, rfl, by omega, by omega, ?_, ⟨by omega, fun y hy => by rw [k5 _ (by omega), kq y (by omega), fg.blk y hy]⟩⟩
      rw [b5, w64, w64s (by omega)]
    refine cnd_of (fun cc => ?_) fun cc => ?_
    · simp only [beq_iff_eq] at cc
      have := dis.z i hi40 cc
      subst this
      refine rdc q2 _ (kq _ c1) ⟨by omega, cnd_f (by simp) (rdc q2 _ (kq _ c1) (nextCell fin))⟩
    · exact rdc q2 _ (kq _ c1) (nextCell fin)
  · exact fun _ hf => hf.elim
  · exact ⟨by omega, fun y hy _ => HK y hy, HL, _, by rw [HK _ (by omega), f40.blk _ (by omega)]; exact b37, fun q => by simpa using q, fun j' hj' => by omega⟩

end Go.Hx
