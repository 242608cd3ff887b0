/- GraphHands over the abstract heap. -/
import Derived.Test.YthohhnnjpaepnaaHxGGraphSteps
namespace Go.Hx
set_option linter.unusedSimpArgs false
set_option linter.unusedVariables false

/-! ### Plain -/

theorem cnt_pair {q : Nat → Bool} (j : Nat) : ∀ i, cntB (2 * i) (fun x => q x && (x / 2 == j)) = if j < i then (if q (2 * j) then 1 else 0) + (if q (2 * j + 1) then 1 else 0) else 0 := by
  intro i
  induction i with
  | zero => rw [if_neg (by omega)]; rfl
  | succ i ih =>
    rw [cnt2, ih]
    have e1 : 2 * i / 2 = i := by omega
    have e2 : (2 * i + 1) / 2 = i := by omega
    rw [e1, e2]
    by_cases h : i = j
    · subst h
      rw [if_neg (Nat.lt_irrefl i), if_pos (Nat.lt_succ_self i)]; simp
    · have hb : (i == j) = false := by rw [beq_eq_false_iff_ne]; exact h
      rw [hb]
      simp only [Bool.and_false, Bool.false_eq_true, if_false, Nat.add_zero]
      by_cases h2 : j < i
      · rw [if_pos h2, if_pos (show j < i + 1 by omega)]
      · rw [if_neg h2, if_neg (show ¬ j < i + 1 by omega)]

/-- How many half-edges of an edge are at a vertex. -/
theorem arH_edge {M : List Int} {m v j : Nat} (hj : j < m) : (arH M m v).countP (fun jj => jj / 2 == j) = (if eU M j = v then 1 else 0) + if eV M j = v then 1 else 0 := by
  have e : (arH M m v).countP (fun jj => jj / 2 == j) = cntB (2 * m) (fun x => (gt (VX M m) x == v) && (x / 2 == j)) := by
    unfold arH cntB
    rw [List.countP_filter, List.countP_eq_length_filter]
    congr 1
    refine List.filter_congr fun x _ => ?_
    rw [Bool.and_comm]
  rw [e, cnt_pair (q := fun x => gt (VX M m) x == v), if_pos hj, VX_u hj, VX_v hj]
  simp only [beq_iff_eq]

/-- The edges around a vertex come in order. -/
theorem arH_inc {n m v : Nat} {M : List Int} (ok : ∀ i, i < m → okE (n : Int) M i) {i i' jj jj' : Nat} (hii : i < i') (h : (arH M m v)[i]? = some jj) (h' : (arH M m v)[i']? = some jj') : jj / 2 < jj' / 2 := by
  have pw : (arH M m v).Pairwise (· < ·) := List.Pairwise.filter _ (List.pairwise_lt_range)
  obtain ⟨l1, e1⟩ := List.getElem?_eq_some_iff.1 h
  obtain ⟨l2, e2⟩ := List.getElem?_eq_some_iff.1 h'
  have lt : jj < jj' := by rw [← e1, ← e2]; exact List.pairwise_iff_getElem.1 pw i i' l1 l2 hii
  obtain ⟨a1, a2⟩ := arH_lt (List.mem_of_getElem? h)
  obtain ⟨b1, b2⟩ := arH_lt (List.mem_of_getElem? h')
  by_cases q : jj / 2 = jj' / 2
  · have hk : jj / 2 < m := by omega
    have x1 : jj = 2 * (jj / 2) := by omega
    have x2 : jj' = 2 * (jj / 2) + 1 := by omega
    rw [x1, VX_u hk] at a2
    rw [x2, VX_v hk] at b2
    exact absurd (a2.trans b2.symm) (ok _ hk).lt.2.2.1
  · omega

/-- The ends of the edge of a half-edge at a vertex. -/
theorem arH_ends {n m v jj : Nat} {M : List Int} (ok : ∀ i, i < m → okE (n : Int) M i) (h : jj ∈ arH M m v) : jj / 2 < m ∧ eU M (jj / 2) + eV M (jj / 2) = VO M jj + v ∧ (eU M (jj / 2) = v ∨ eV M (jj / 2) = v) := by
  obtain ⟨a1, a2⟩ := arH_lt h
  rw [VX_gt a1] at a2
  unfold VO
  refine ⟨by omega, ?_⟩
  split at a2
  · rename_i q; rw [if_pos q]; omega
  · rename_i q; rw [if_neg q]; omega

theorem hE_val (jj : Nat) : hE jj = ((jj / 2 : Nat) : Int) := rfl

theorem rep_gt0 {n i : Nat} : gt (List.replicate n 0) i = 0 := by
  by_cases h : i < n
  · exact rep_gt h
  · simp [gt, List.getD, List.getElem?_eq_none, Nat.not_lt.1 h]

/-! ### The walk -/

set_option maxHeartbeats 4000000 in
theorem g_law13_GraphHands_true (s : Sl) (h : Hp) (K : Bool → Hp → Prop) {C : List Value} (hr : Rd h 3 s C) (hy : s.n ≤ 2 ^ 63 - 1)
    (hm : ∀ i j l, i < s.n → [LK.int .u8, .int .u8, .int .i8][j]? = some l → ∃ v, C[i * 3 + j]? = some v ∧ okCell l v) (hK : ∀ h', K true h') : g_law13_GraphHands s h K := by
  have hC := lkC hm
  unfold g_law13_GraphHands
  refine alo_of fun h2 z2 b2 k2 => ?_
  refine cnd_of (fun c => works13_spec h2 _ fun h' f' => outB ((f'.blk _ (by omega)).trans b2) hK) fun c => ?_
  simp only [decide_eq_false_iff_not, Int.ofNat_eq_natCast] at c
  have f2 : Fr h.size h h2 := ⟨by omega, k2⟩
  refine made_spec (hr.fr f2) (by omega) hC _ fun o m h8 bl hm d8 lo f8 => cnd_f rfl ?_
  obtain ⟨-, -, -, gok⟩ := id d8.ok
  obtain ⟨M, hM⟩ : ∃ M, M = blt C 40 s.n := ⟨_, rfl⟩
  rw [← hM] at d8 bl gok
  have z8 := f8.size
  refine gEdges_spec d8 _ fun r11 h12 r11n l12 f12 => ?_
  have z12 := f12.size
  refine alo_of fun h14 z14 b14 k14 => ?_
  simp only [add_mk, Nat.zero_add]
  refine stc_of b14 (by simp) fun h15 z15 b15 k15 => ?_
  simp only [List.set_cons_zero] at b15
  refine ldS_of (p := r11.a) (n := r11.n) (c := r11.c) (by rw [cell_own b15]; rfl) ?_
  simp only [r11n, Int.ofNat_eq_natCast]
  refine mks_of (by omega) (by omega) (by omega) fun h18 z18 b18 k18 => alo_of fun h20 z20 b20 k20 => ?_
  simp only [Int.toNat_natCast] at b18 ⊢
  refine stc_of b20 (by simp) fun h21 z21 b21 k21 => ?_
  simp only [List.set_cons_zero] at b21
  obtain ⟨A, hA⟩ : ∃ A, A = h.size := ⟨_, rfl⟩
  obtain ⟨B, hB⟩ : ∃ B, B = h12.size := ⟨_, rfl⟩
  obtain ⟨R, hR⟩ : ∃ R, R = h15.size := ⟨_, rfl⟩
  obtain ⟨T0, hT0⟩ : ∃ T0, T0 = h18.size := ⟨_, rfl⟩
  rw [← hA, ← hB, ← hT0]
  rw [← hB] at b15
  rw [← hR] at b18 b21
  rw [← hT0] at b21
  have kb : ∀ y, y < h12.size → h21.blk y = h12.blk y := fun y hy => by rw [k21 _ (by omega), k20 _ (by omega), k18 _ (by omega), k15 _ (by omega), k14 _ hy]
  have F21 : Fr h12.size h12 h21 := ⟨by omega, kb⟩
  have bA : h21.blk A = some (.cells [.bool false]) := by rw [kb _ (by omega), f12.blk _ (by omega), f8.blk _ (by omega), hA]; exact b2
  have bB : h21.blk B = some (.cells [.slice r11.a r11.n r11.c]) := by rw [k21 _ (by omega), k20 _ (by omega), k18 _ (by omega)]; exact b15
  have d21 := (d8.fr f12).fr F21
  have l21 := l12.fr F21
  have hdhi := d8.hi
  have r11b : ∀ x, r11.a = some x → x.block < h12.size := fun x hx => (l12.blk_lt hx).2.1
  obtain ⟨sR, hsR⟩ : ∃ sR : Sl, sR = ⟨some ⟨R, 0, none⟩, m, m⟩ := ⟨_, rfl⟩
  have sRa : sR.a = some ⟨R, 0, none⟩ := by rw [hsR]
  have sRn : sR.n = m := by rw [hsR]
  have lR : Lst h21 1 sR (ints (nats (List.replicate m 0))) R := by
    rw [hsR]
    refine ⟨by rw [ints_len, nats_len, List.length_replicate]; simp, Nat.le_refl _, .inr ⟨R, [], rfl, Nat.le_refl _, by omega, ?_, by simp [ints_len, nats_len]⟩⟩
    rw [k21 _ (by omega), k20 _ (by omega), b18, zrow_ints0, List.append_nil]
  have nbR : ∀ c, c ≠ R → nb sR c := fun c hc x hx => by rw [sRa] at hx; cases hx; exact hc
  -- what the heap keeps
  obtain ⟨KP, hKP⟩ : ∃ KP : Hp → Prop, KP = fun g => h21.size ≤ g.size ∧ ∀ y, y < h21.size → y ≠ R → g.blk y = h21.blk y := ⟨_, rfl⟩
  have kpA : ∀ g, KP g → g.blk A = some (.cells [.bool false]) := fun g kp => by rw [hKP] at kp; rw [kp.2 _ (by omega) (by omega)]; exact bA
  have kpB : ∀ g (K : Sl → Prop), KP g → K ⟨r11.a, r11.n, r11.c⟩ → ldS g ⟨B, 0, none⟩ K := fun g K kp hk => by
    rw [hKP] at kp
    exact ldS_of (p := r11.a) (n := r11.n) (c := r11.c) (by rw [cell_own ((kp.2 _ (by omega) (by omega)).trans bB)]; rfl) hk
  have kpT : ∀ g (K : Sl → Prop), KP g → K sR → ldS g ⟨T0, 0, none⟩ K := fun g K kp hk => by
    rw [hKP] at kp
    refine ldS_of (p := sR.a) (n := sR.n) (c := sR.c) (by rw [cell_own ((kp.2 _ (by omega) (by omega)).trans b21), hsR]; rfl) hk
  have kpl : ∀ g, KP g → Rd g 3 r11 (ints M) := fun g kp => by
    rw [hKP] at kp
    exact l21.rd.hi (hi := h12.size) r11b (by omega) fun y hy => kp.2 y (by omega) (by omega)
  have kpd : ∀ g, KP g → GS g o 40 m M := fun g kp => by
    rw [hKP] at kp
    exact d21.keep kp.1 fun y _ hy => kp.2 y (by omega) (by omega)
  have kpf : ∀ g g', KP g → Fr g.size g g' → KP g' := fun g g' kp f => by
    rw [hKP] at kp ⊢
    exact ⟨by have := f.size; omega, fun y hy hne => by rw [f.blk _ (by omega), kp.2 y hy hne]⟩
  have kp21 : KP h21 := by rw [hKP]; exact ⟨Nat.le_refl _, fun _ _ _ => rfl⟩
  have kpz : ∀ g, KP g → h21.size ≤ g.size := fun g kp => by rw [hKP] at kp; exact kp.1
  refine jn_of (fun (t : Int × Unit) g => t.1 = ((2 * m : Nat) : Int) ∧ KP g ∧ ∃ T, Lst g 1 sR (ints (nats T)) R ∧ T.length = m ∧ ∀ j, j < m → gt T j = 2) ?_ fun K24 hK24 => ?_
  · rintro ⟨_, _⟩ g ⟨rfl, kp, T, lT, lT2, hT⟩
    refine jn_of (fun _ g => KP g) ?_ fun K27 hK27 => ?_
    case refine_2 =>
      refine for_of m (fun i (st : Int × Unit) g' => st.1 = (i : Int) ∧ g' = g) ?_ ⟨rfl, rfl⟩
      rintro i Kr ⟨st, _⟩ g' hi ⟨rfl, eg⟩ hKr
      rw [eg]
      refine kpT g _ kp (cnd_of (fun c => ?_) fun c => hK27 _ _ kp)
      simp only [decide_eq_true_eq, sRn, Int.ofNat_eq_natCast] at c
      have him : i < m := by omega
      refine kpT g _ kp (get1_spec lT.rd (by omega) _ (cnd_f (by rw [hT i him]; rfl) (hKr him _ _ ⟨?_, rfl⟩)))
      simp only; rw [w64, w64s (by omega)]
    rintro ⟨⟩ g' kp'
    refine kpB g' _ kp' (cnd_t ?_ (works13_spec _ _ fun h' f' => ?_))
    · simp only [r11n, Int.ofNat_eq_natCast]
      rw [w64, w64_eq (by omega) (by omega)]; simp
    · exact outB ((f'.blk _ (by have := kpz _ kp'; omega)).trans (kpA _ kp')) hK
  refine alo_of fun h45 z45 b45 k45 => ?_
  refine stc_of b45 (by simp) fun h46 z46 b46 k46 => ?_
  simp only [List.set_cons_zero] at b46
  have f46 : Fr h21.size h21 h46 := ⟨by omega, fun c hc => by rw [k46 _ (by omega), k45 _ hc]⟩
  have atp0 : atp (VX M m) 0 = 0 := by
    have e : ∀ k, cntB k (fun j => decide (gt (VX M m) j < 0)) = 0 := fun k => by
      induction k with
      | zero => rfl
      | succ k ih => rw [cntB_succ, ih]; simp
    exact e _
  have hVX : ∀ x, x < 2 * m → gt (VX M m) x < 40 := fun x hx => by
    rw [VX_gt hx]
    have := (gok (x / 2) (by omega)).lt
    split <;> omega
  have atp40 : atp (VX M m) 40 = 2 * m := by
    unfold atp
    rw [cntB_congr (q := fun _ => true) fun k hk => by rw [VX_len] at hk; exact decide_eq_true (hVX k hk), cntB_all, VX_len]
  have atple : ∀ v, atp (VX M m) v ≤ 2 * m := fun v => by
    have := cntB_le (VX M m).length fun k => decide (gt (VX M m) k < v)
    rw [VX_len] at this; unfold atp; rw [VX_len]; exact this
  refine for_of 40 (fun v (t : Int × Addr × Unit) g => ∃ (c : Nat) (T : List Nat), t.2.1 = ⟨c, 0, none⟩ ∧ t.1 = (atp (VX M m) v : Nat) ∧ h21.size ≤ c ∧ c < g.size ∧ g.blk c = some (.cells [.int .i64 (v : Nat)]) ∧ KP g ∧ Lst g 1 sR (ints (nats T)) R ∧ T.length = m ∧ ∀ j, j < m → gt T j = (if eU M j < v then 1 else 0) + if eV M j < v then 1 else 0) ?_
    ⟨h21.size, _, rfl, by rw [atp0]; rfl, Nat.le_refl _, by omega, b46, kpf _ _ kp21 f46, lR.fr f46, by simp, fun j hj => by rw [rep_gt0]; rfl⟩
  rintro v Kr ⟨_, _, _⟩ g hv ⟨c, T, rfl, rfl, c0, c1, bc, kp, lT, lTn, hT⟩ hKr
  have zg := kpz _ kp
  refine ldI_of (by rw [cell_own bc]; rfl) (cnd_of (fun ci => ?_) fun ci => ?_)
  rotate_left
  · simp only [decide_eq_false_iff_not] at ci
    obtain rfl : v = 40 := by omega
    refine hK24 _ _ ⟨?_, kp, T, lT, lTn, fun j hj => ?_⟩
    · simp only; rw [atp40]
    · have := (gok j hj).lt
      rw [hT j hj, if_pos this.1, if_pos this.2.1]
  simp only [decide_eq_true_eq] at ci
  have hv40 : v < 40 := by omega
  have dg := kpd _ kp
  refine ldI_of (by rw [cell_own bc]; rfl) (gDegree_spec dg (v : Int) _ ?_)
  rw [if_pos ⟨by omega, by omega⟩, Int.toNat_natCast, arH_len]
  refine alo_of fun h55 z55 b55 k55 => ?_
  refine stc_of b55 (by simp) fun h56 z56 b56 k56 => ?_
  simp only [List.set_cons_zero] at b56
  have f56 : Fr g.size g h56 := ⟨by omega, fun y hy => by rw [k56 _ (by omega), k55 _ hy]⟩
  refine ldI_of (by rw [cell_own ((f56.blk _ c1).trans bc)]; rfl) ?_
  refine gAround_spec (dg.fr f56) (v : Int) _ fun cs s2 P h59 hP1 hP2 rs2 sn2 bcs cs0 cs1 hsb f59 r60 => ?_
  have hPi := hP2 v rfl hv40
  subst hPi
  have z59 := f59.size
  obtain ⟨H0, hH0⟩ : ∃ H0 : Hp, H0 = (h59.pushB none).pushB (some (.lp r60)) := ⟨_, rfl⟩
  rw [← hH0]
  have zH : H0.size = h59.size + 2 := by rw [hH0]; rfl
  have HL : H0.blk (h59.size + 1) = some (.lp r60) := by rw [hH0]; exact pushB_at (h59.pushB none) _
  have HK : ∀ y, y < h59.size → H0.blk y = h59.blk y := fun y hy => by
    rw [hH0, pushB_ne _ _ (by show y ≠ h59.size + 1; omega), pushB_ne _ _ (by omega)]
  have fH : Fr h59.size h59 H0 := ⟨by omega, HK⟩
  obtain ⟨D, hD⟩ : ∃ D, D = g.size := ⟨_, rfl⟩
  rw [← hD] at b56 ⊢
  have kgH : ∀ y, y < g.size → H0.blk y = g.blk y := fun y hy => by rw [HK _ (by omega), f59.blk _ (by omega), f56.blk _ hy]
  have fgH : Fr g.size g H0 := ⟨by omega, kgH⟩
  have an : (arH M m v).length ≤ 2 * m := by
    rw [arH_len]
    have := cntB_le (VX M m).length fun k => gt (VX M m) k == v
    rw [VX_len] at this; unfold szp; rw [VX_len]; omega
  refine iter2_spec (s := s2) (P := fl2 hE (hV M) (arH M m v)) (E := fun _ => False) (by omega)
    (fun j g' => h59.size + 2 ≤ g'.size ∧ (∀ y, y < h59.size → y ≠ D → y ≠ R → g'.blk y = h59.blk y) ∧ g'.blk (h59.size + 1) = some (.lp r60) ∧ KP g' ∧
      (∃ lv : Int, g'.blk D = some (.cells [.int .i64 lv]) ∧ ∀ i, j ≤ i → ∀ jj, (arH M m v)[i]? = some jj → lv < hE jj) ∧
      ∃ T', Lst g' 1 sR (ints (nats T')) R ∧ T'.length = m ∧ ∀ e, e < m → gt T' e = gt T e + ((arH M m v).take j).countP (fun jj => jj / 2 == e))
    ?_ ?_ ?_ ?_ ?_ ?_ ?_
  · rintro j g' ⟨zg', kg', _⟩
    exact rs2.hi (hi := o.hi) hsb (by omega) fun y hy => kg' y (by omega) (by omega) (by omega)
  · rw [cell_own ((HK cs cs1).trans bcs)]; rfl
  · rintro j g' g'' ⟨zg', kg', lp', kp', ⟨lv, bl, hl⟩, T', lT', n', hT'⟩ f
    have z := f.size
    exact ⟨by omega, fun y hy hne hn2 => by rw [f.blk _ (by omega), kg' y hy hne hn2], (f.blk _ (by omega)).trans lp', kpf _ _ kp' f, ⟨lv, (f.blk _ (by omega)).trans bl, hl⟩, T', lT'.fr f, n', hT'⟩
  · rintro j g' Kr' hj ⟨zg', kg', lp', kp', ⟨lv, bl, hl⟩, T', lT', n', hT'⟩ hKr' _
    obtain ⟨jj, hjj⟩ : ∃ jj, (arH M m v)[j]? = some jj := ⟨_, List.getElem?_eq_getElem (by omega)⟩
    obtain ⟨x1, x2⟩ := fl2_get (f := hE) (g := hV M) hjj
    obtain ⟨hem, hsum, hor⟩ := arH_ends gok (List.mem_of_getElem? hjj)
    obtain ⟨eu, ev, ene, e1, e2⟩ := (gok _ hem).lt
    rw [x1, x2]
    show lpIs g' (h59.size + 1) r60 (lpIs g' (h59.size + 1) r60 (lpSet g' (h59.size + 1) (bsy r60) _))
    refine lpRound2 lp' fun q1 az1 al1 ak1 => ?_
    have hll := hl j (Nat.le_refl _) jj hjj
    obtain ⟨ee, hee⟩ : ∃ ee, ee = jj / 2 := ⟨_, rfl⟩
    rw [← hee] at hem hsum hor eu ev ene e1 e2
    have hv1 : hE jj = ((ee : Nat) : Int) := by rw [hee]; rfl
    obtain ⟨w, hw⟩ : ∃ w, w = VO M jj := ⟨_, rfl⟩
    rw [← hw] at hsum
    have hv2 : hV M jj = ((w : Nat) : Int) := by rw [hw]; rfl
    simp only [projA]
    simp only [hv1, hv2]
    rw [hv1] at hll
    have kpq : KP q1 := by
      rw [hKP] at kp' ⊢
      exact ⟨by omega, fun y hy hne => by rw [ak1 _ (by omega)]; exact kp'.2 y hy hne⟩
    have lTq : Lst q1 1 sR (ints (nats T')) R := lT'.keep (by omega) fun x hx => ak1 _ (by rw [sRa] at hx; cases hx; simp only; omega)
    have bc' : ∀ g5 : Hp, g5.blk c = q1.blk c → ∀ (K : Int → Prop), K (v : Nat) → ldI .i64 g5 ⟨c, 0, none⟩ K := fun g5 e5 K hk => ldI_of (by rw [cell_own (e5.trans ((ak1 _ (by omega)).trans ((kg' _ (by omega) (by omega) (by omega)).trans ((f59.blk _ (by omega)).trans ((f56.blk _ c1).trans bc)))))]; rfl) hk
    have rl := kpl _ kpq
    refine ldI_of (by rw [cell_own ((ak1 _ (by omega)).trans bl)]; rfl) (cnd_f (show decide (((ee : Nat) : Int) ≤ lv) = false from decide_eq_false (by omega)) (kpB q1 _ kpq (cnd_f (show decide (((ee : Nat) : Int) ≥ ((r11.n : Nat) : Int)) = false from decide_eq_false (by omega)) ?_)))
    refine kpB q1 _ kpq (rd3k (s := r11) rl (by omega) (by omega) ?_)
    rw [e1]
    refine kpB q1 _ kpq (rd3k (s := r11) rl (by omega) (by omega) ?_)
    rw [e2]
    refine bc' q1 rfl _ (cnd_f ?_ ?_)
    · show (w64 (((eU M ee : Nat) : Int) + ((eV M ee : Nat) : Int)) != w64 (((w : Nat) : Int) + ((v : Nat) : Int))) = false
      rw [show ((eU M ee : Nat) : Int) + ((eV M ee : Nat) : Int) = ((w : Nat) : Int) + ((v : Nat) : Int) by omega]; simp
    -- the edge is counted
    have cnt : stc q1 ⟨D, 0, none⟩ (.int .i64 ((ee : Nat) : Int)) fun h99 => ldS h99 ⟨T0, 0, none⟩ fun s100 => ix s100.a s100.n ((ee : Nat) : Int) fun a101 => ldI .i64 h99 (a101.add (Int.toNat ((ee : Nat) : Int) * 1)) fun n102 => ix s100.a s100.n ((ee : Nat) : Int) fun a103 => stc h99 ((a103.add (Int.toNat ((ee : Nat) : Int) * 1)).add 0) (.int .i64 (w64 (n102 + 1))) fun h104 => lpIs h104 (h59.size + 1) (bsy r60) (lpSet h104 (h59.size + 1) r60 fun h105 => Kr' true h105) := by
      refine stc_of ((ak1 _ (by omega)).trans bl) (by simp) fun q2 az2 ab2 ak2 => ?_
      simp only [List.set_cons_zero] at ab2
      have kp2 : KP q2 := by
        rw [hKP] at kpq ⊢
        exact ⟨by omega, fun y hy hne => by rw [ak2 _ (by omega)]; exact kpq.2 y hy hne⟩
      have lT2 : Lst q2 1 sR (ints (nats T')) R := lTq.keep (by omega) fun x hx => ak2 _ (by rw [sRa] at hx; cases hx; simp only; omega)
      have cle : ((arH M m v).take j).countP (fun jj => jj / 2 == ee) ≤ 2 * m := by
        refine Nat.le_trans List.countP_le_length ?_
        rw [List.length_take]; omega
      have vT := hT' ee hem
      have vT0 := hT ee hem
      have small : gt T' ee < 2 ^ 40 := by
        have : gt T ee ≤ 2 := by rw [vT0]; split <;> split <;> omega
        omega
      refine kpT q2 _ kp2 (get1_spec lT2.rd (by omega) _ ?_)
      rw [w64, w64s (by omega)]
      refine set1_spec lT2 (by omega) _ fun q3 az3 l3 ak3 => ?_
      have al3 : q3.blk (h59.size + 1) = some (.lp (bsy r60)) := by rw [ak3 _ (nbR _ (by omega)), ak2 _ (by omega)]; exact al1
      refine lpRound al3 fun q4 az4 al4 ak4 => hKr' q4 ⟨by omega, fun y hy hne hn2 => by rw [ak4 _ (by omega), ak3 _ (nbR _ hn2), ak2 _ hne, ak1 _ (by omega), kg' y hy hne hn2], al4, ?_, ⟨(ee : Nat), ?_, fun i hi jj' hjj' => ?_⟩, _, l3.keep (by omega) fun x hx => ak4 _ (by rw [sRa] at hx; cases hx; simp only; omega), by rw [List.length_set]; exact n', fun e he => ?_⟩
      · rw [hKP] at kp2 ⊢
        exact ⟨by omega, fun y hy hne => by rw [ak4 _ (by omega), ak3 _ (nbR _ hne)]; exact kp2.2 y hy hne⟩
      · rw [ak4 _ (by omega), ak3 _ (nbR _ (by omega))]; exact ab2
      · have := arH_inc gok (show j < i by omega) hjj hjj'
        rw [hE_val]; omega
      · have tk : (arH M m v).take (j + 1) = (arH M m v).take j ++ [jj] := by
          rw [List.take_succ_eq_append_getElem (by omega)]
          obtain ⟨_, ej⟩ := List.getElem?_eq_some_iff.1 hjj
          rw [ej]
        rw [tk, List.countP_append, gt_set, List.countP_singleton, ← hee]
        by_cases q : ee = e
        · subst q
          rw [if_pos ⟨rfl, by omega⟩, vT]; simp; omega
        · rw [if_neg fun h => q h.1, hT' e he]; simp [q]
    refine kpB q1 _ kpq (rd3k (s := r11) rl (by omega) (by omega) ?_)
    rw [e1]
    refine bc' q1 rfl _ (cnd_of (fun cu => ?_) fun cu => cnt)
    refine kpB q1 _ kpq (rd3k (s := r11) rl (by omega) (by omega) ?_)
    rw [e2]
    refine bc' q1 rfl _ (cnd_f ?_ cnt)
    simp only [bne_iff_ne, ne_eq] at cu
    rw [bne_eq_false_iff_eq]
    rcases hor with q | q
    · rw [q] at cu; exact absurd rfl cu
    · rw [q]
  · rintro g' ⟨zg', kg', lp', kp', ⟨lv, bl, hl⟩, T', lT', n', hT'⟩
    refine .inr (lpRound lp' fun q2 az2 al2 ak2 => ?_)
    have kp2 : KP q2 := by
      rw [hKP] at kp' ⊢
      exact ⟨by omega, fun y hy hne => by rw [ak2 _ (by omega)]; exact kp'.2 y hy hne⟩
    refine ldI_of (by rw [cell_own ((ak2 _ (by omega)).trans ((kg' _ (by omega) (by omega) (by omega)).trans ((f59.blk _ (by omega)).trans ((f56.blk _ c1).trans bc))))]; rfl) (nextCell fun g5 z5 b5 k5 => ?_)
    have f5 : Fr q2.size q2 g5 := ⟨by omega, k5⟩
    have ea : w64 (((atp (VX M m) v : Nat) : Int) + ((szp (VX M m) v : Nat) : Int)) = ((atp (VX M m) (v + 1) : Nat) : Int) := by
      rw [atp_succ, w64, w64_eq (by omega) (by have := atple (v + 1); rw [atp_succ] at this; omega)]; omega
    refine hKr hv40 _ _ ⟨q2.size, T', rfl, ea, by omega, by omega, ?_, kpf _ _ kp2 f5, (lT'.keep (by omega) fun x hx => ak2 _ (by rw [sRa] at hx; cases hx; simp only; omega)).fr f5, n', fun j hj => ?_⟩
    · rw [b5, w64, w64s (by omega)]
    · rw [hT' j hj, sn2, List.take_length, arH_edge hj, hT j hj]
      have := (gok j hj).lt
      split <;> split <;> split <;> split <;> split <;> split <;> omega
  · exact fun _ hf => hf.elim
  · refine ⟨by omega, fun y hy _ _ => HK y hy, HL, kpf _ _ kp fgH, ⟨-1, by rw [HK _ (by omega), f59.blk _ (by omega)]; exact b56, fun i _ jj _ => by rw [hE_val]; omega⟩, T, lT.fr fgH, lTn, fun e he => by simp⟩

end Go.Hx
