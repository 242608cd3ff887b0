/- Dist of graphs. No condition. -/
import Derived.Test.YthohhnnjpaepnaaHxGrK
namespace Go.Hx
set_option linter.unusedSimpArgs false
set_option linter.unusedVariables false

/-- Where the search stands in the heap; X: blocks that are others'. -/
structure DI (h0 : Hp) (cd cq : Nat) (sd : Sl) (X : Nat → Prop) (W : List Int) (Q : List Nat) (g : Hp) : Prop where
  fr : Fr h0.size h0 g
  d : g.blk cd = some (.cells [.slice sd.a sd.n sd.c])
  ls : Lst g 1 sd (ints W) h0.size
  q : ∃ sq, g.blk cq = some (.cells [.slice sq.a sq.n sq.c]) ∧ Qu g sq (ints (nats Q)) h0.size ∧ nb sq cd ∧ nb sq cq ∧ (∀ x, sd.a = some x → nb sq x.block) ∧ ∀ c, X c → nb sq c
  n1 : nb sd cd
  n2 : nb sd cq
  ne : cd ≠ cq
  lt : h0.size ≤ cd ∧ cd < g.size ∧ h0.size ≤ cq ∧ cq < g.size
  x : ∀ c, X c → nb sd c ∧ c ≠ cd ∧ c ≠ cq ∧ h0.size ≤ c

section
variable {h0 : Hp} {cd cq : Nat} {sd : Sl} {X : Nat → Prop} {W : List Int} {Q : List Nat} {g g' : Hp}

/-- Nothing of it changes. -/
theorem DI.keep (d : DI h0 cd cq sd X W Q g) (f : Fr g.size g g') : DI h0 cd cq sd X W Q g' := by
  obtain ⟨sq, q1, q2, q3, q4, q5, q6⟩ := d.q
  obtain ⟨l1, l2, l3, l4⟩ := d.lt
  have z := f.size; have z0 := d.fr.size
  exact ⟨⟨by omega, fun c hc => by rw [f.blk c (by omega), d.fr.blk c hc]⟩, (f.blk _ l2).trans d.d, d.ls.fr f, ⟨sq, (f.blk _ l4).trans q1, q2.keep z fun x hx => f.blk _ (q2.blk_lt hx).2, q3, q4, q5, q6⟩, d.n1, d.n2, d.ne, by omega, d.x⟩

/-- A block of others changes. -/
theorem DI.oth (d : DI h0 cd cq sd X W Q g) {l : Nat} (hX : X l) (hz : g'.size = g.size) (hk : ∀ c, c ≠ l → g'.blk c = g.blk c) : DI h0 cd cq sd X W Q g' := by
  obtain ⟨sq, q1, q2, q3, q4, q5, q6⟩ := d.q
  obtain ⟨x1, x2, x3, x4⟩ := d.x l hX
  exact ⟨⟨by rw [hz]; exact d.fr.size, fun c hc => by rw [hk c (by omega), d.fr.blk c hc]⟩, (hk _ (Ne.symm x2)).trans d.d, d.ls.keep (by omega) fun x hx => hk _ fun e => x1 x hx e.symm, ⟨sq, (hk _ (Ne.symm x3)).trans q1, q2.keep (by omega) fun x hx => hk _ fun e => q6 l hX x hx e.symm, q3, q4, q5, q6⟩, d.n1, d.n2, d.ne, by have := d.lt; omega, d.x⟩

/-- A block that is new is others'. -/
theorem DI.new (d : DI h0 cd cq sd X W Q g) {l : Nat} (hl : g.size ≤ l) : DI h0 cd cq sd (fun c => X c ∨ c = l) W Q g := by
  obtain ⟨sq, q1, q2, q3, q4, q5, q6⟩ := d.q
  have lt := d.lt
  refine ⟨d.fr, d.d, d.ls, ⟨sq, q1, q2, q3, q4, q5, fun c hc => ?_⟩, d.n1, d.n2, d.ne, d.lt, fun c hc => ?_⟩
  · rcases hc with hc | rfl
    · exact q6 c hc
    · exact fun x hx => by have := (q2.blk_lt hx).2; omega
  · rcases hc with hc | rfl
    · exact d.x c hc
    · exact ⟨fun x hx => by have := (d.ls.blk_lt hx).2.1; omega, by omega, by omega, by have := d.fr.size; omega⟩

theorem DI.less {Y : Nat → Prop} (d : DI h0 cd cq sd X W Q g) (h : ∀ c, Y c → X c) : DI h0 cd cq sd Y W Q g := by
  obtain ⟨sq, q1, q2, q3, q4, q5, q6⟩ := d.q
  exact ⟨d.fr, d.d, d.ls, ⟨sq, q1, q2, q3, q4, q5, fun c hc => q6 c (h c hc)⟩, d.n1, d.n2, d.ne, d.lt, fun c hc => d.x c (h c hc)⟩
end

section
variable {h : Hp} {o : GOb} {n m : Nat} {M : List Int}

set_option maxHeartbeats 4000000 in
theorem gDist_spec (d : GS h o n m M) (v : Int) (K : Sl → Hp → Prop) (hbad : ¬ (0 ≤ v ∧ v < (n : Int)) → K ⟨none, 0, 0⟩ h)
    (hok : ∀ (u : Nat) s h' W, v = u → u < n → Lst h' 1 s (ints W) h.size → Dis (eP M m) n u W → (∀ w, w < n → W.getD w 0 ≤ n) → Fr h.size h h' → K s h') : g_graph_Graph_Dist (some ⟨o.a, 0, none⟩) v h K := by
  obtain ⟨nb1, nb2⟩ := d.nb
  unfold g_graph_Graph_Dist
  refine halves_spec d v _ (fun q => cnd_t rfl (hbad q)) fun v0 s hv hvn rs hn hb => cnd_f rfl ?_
  subst hv
  refine alo_of fun h5 z5 b5 k5 => nn_of ?_
  have f5 : Fr h.size h h5 := ⟨by omega, k5⟩
  have d5 := d.fr f5
  simp only [add_mk, Nat.zero_add]
  refine ldI_of (by rw [d5.cell]; rfl) (rep_spec b5 (by omega) nb1 _ fun sd h9 l9 n9 f9 => alo_of fun h11 z11 b11 k11 => ?_)
  have z9 := f9.size
  simp only [add_mk, Nat.zero_add]
  refine stc_of b11 (by simp) fun h12 z12 b12 k12 => ?_
  simp only [List.set_cons_zero] at b12
  have k12' : ∀ c, c < h9.size → h12.blk c = h9.blk c := fun c hc => by rw [k12 c (by omega), k11 c hc]
  have l12 : Lst h12 1 sd (ints (List.replicate n (-1))) h5.size := l9.keep (by omega) fun x hx => k12' _ (l9.blk_lt hx).2.1
  have nd9 : nb sd h9.size := fun x hx => by have := (l9.blk_lt hx).2.1; omega
  refine ldS_of (p := sd.a) (n := sd.n) (c := sd.c) (by rw [cell_own b12]; rfl) (ix_st1 l12 (by omega) (by simp only; omega) rfl fun h15 z15 l15 k15 => ?_)
  rw [Int.toNat_natCast] at l15
  refine alo_of fun h17 z17 b17 k17 => alo_of fun h19 z19 b19 k19 => ?_
  simp only [add_mk, Nat.zero_add]
  refine stc_of b19 (by simp) fun h20 z20 b20 k20 => ?_
  simp only [List.set_cons_zero] at b20
  have ndx : ∀ c, (∀ x, sd.a = some x → c ≠ x.block) ↔ nb sd c := fun c => Iff.rfl
  have b15 : h15.blk h9.size = some (.cells [.slice sd.a sd.n sd.c]) := (k15 _ nd9).trans b12
  have k20' : ∀ c, c < h17.size → h20.blk c = h17.blk c := fun c hc => by rw [k20 c (by omega), k19 c hc]
  have f20 : Fr h.size h h20 := ⟨by omega, fun c hc => by
    rw [k20' c (by omega), k17 c (by omega), k15 c (fun x hx => by have := (l9.blk_lt hx).1; omega), k12' c (by omega), f9.blk c (by omega), k5 c hc]⟩
  have lsz : h9.size < h15.size := by omega
  have DI20 : DI h h9.size h17.size sd (fun _ => False) ((List.replicate n (-1)).set v0 0) [v0] h20 := by
    refine ⟨f20, by rw [k20' _ (by omega), k17 _ (by omega), b15], ?_, ⟨⟨some ⟨h15.size, 0, none⟩, 1, 1⟩, b20, Qu.one (by rw [k20' _ (by omega)]; exact b17) (by omega) (by omega), fun x hx => by cases hx; simp only; omega, fun x hx => by cases hx; simp only; omega, fun x hx y hy => by cases hy; have := (l15.blk_lt hx).2.1; simp only; omega, fun c hc => hc.elim⟩, nd9, fun x hx => by have := (l15.blk_lt hx).2.1; omega, by omega, by omega, fun c hc => hc.elim⟩
    refine (l15.keep (by omega) fun x hx => ?_).le (by omega)
    have := (l15.blk_lt hx).2.1
    rw [k20' _ (by omega), k17 _ (by omega)]
  have gW : ∀ j, ((List.replicate n (-1 : Int)).set v0 0).getD j 0 = if j = v0 then 0 else (List.replicate n (-1 : Int)).getD j 0 := fun j => setI_getD (by simpa using hvn)
  have gR : ∀ j, j < n → (List.replicate n (-1 : Int)).getD j 0 = -1 := fun j hj => by simp [List.getD, hj]
  have BQ20 : BQ (eP M m) n v0 ((List.replicate n (-1)).set v0 0) [v0] (fun _ => False) 0 := by
    refine ⟨by simp, fun w hw => ?_, by rw [gW, if_pos rfl], fun w hw e => ?_, fun w hw e => ?_, fun u hu => ?_, by simp, fun w hw => ?_, by omega, fun w hw h0 hq => ?_⟩
    · rw [gW]; split
      · omega
      · rw [gR w hw]; omega
    · rw [gW] at e; split at e
      · assumption
      · rw [gR w hw] at e; omega
    · rw [gW] at e; split at e
      · omega
      · rw [gR w hw] at e; omega
    · simp only [List.mem_singleton] at hu
      subst hu
      exact ⟨hvn, by rw [gW, if_pos rfl]; omega⟩
    · rw [gW]; split
      · omega
      · rw [gR w hw]; omega
    · simp only [List.mem_singleton] at hq
      rw [gW, if_neg hq, gR w hw] at h0; omega
  have neg0 : negs ((List.replicate n (-1 : Int)).set v0 0) ≤ n := by
    have : negs ((List.replicate n (-1 : Int)).set v0 0) ≤ ((List.replicate n (-1 : Int)).set v0 0).length := List.countP_le_length
    simpa using this
  obtain ⟨cd, hcd⟩ : ∃ cd, cd = h9.size := ⟨_, rfl⟩
  obtain ⟨cq, hcq⟩ : ∃ cq, cq = h17.size := ⟨_, rfl⟩
  rw [← hcd, ← hcq] at DI20
  rw [← hcd, ← hcq]
  -- the queue
  have bw0 : ∀ w, w < n → ((List.replicate n (-1 : Int)).set v0 0).getD w 0 + negs ((List.replicate n (-1 : Int)).set v0 0) ≤ n := fun w hw => by
    rw [gW]; split
    · omega
    · rw [gR w hw]; omega
  refine loop_of (fun q (_ : Unit) g => ∃ W Q k, DI h cd cq sd (fun _ => False) W Q g ∧ BQ (eP M m) n v0 W Q (fun _ => False) k ∧ Q.length + negs W ≤ q ∧ (∀ w, w < n → W.getD w 0 + negs W ≤ n) ∧ q ≤ n + 1) ?_ (n := n + 1) ⟨_, _, 0, DI20, BQ20, by simp only [List.length_cons, List.length_nil]; omega, bw0, Nat.le_refl _⟩
  rintro q Kr ⟨⟩ g ⟨W, Q, k, di0, bq, hq, hbw, hqn⟩ hKr
  have di := (di0.new (Nat.le_refl _)).less (Y := fun c => c = g.size) fun c hc => .inr hc
  obtain ⟨sq, q1, q2, q3, q4, q5, q6⟩ := id di.q
  have sqn := q2.n
  rw [ints_len, nats_len] at sqn
  obtain ⟨lt1, lt2, lt3, lt4⟩ := di.lt
  refine ldS_of (p := sq.a) (n := sq.n) (c := sq.c) (by rw [cell_own q1]; rfl) (cnd_of (fun c => ?_) fun c => ?_)
  rotate_left
  · simp only [decide_eq_false_iff_not, Int.ofNat_eq_natCast] at c
    have : Q = [] := List.eq_nil_of_length_eq_zero (by omega)
    subst this
    exact ldS_of (p := sd.a) (n := sd.n) (c := sd.c) (by rw [cell_own di.d]; rfl) (hok v0 sd g W rfl hvn di.ls bq.fin (fun w hw => by have := hbw w hw; omega) di.fr)
  simp only [decide_eq_true_eq, Int.ofNat_eq_natCast] at c
  cases Q with
  | nil => simp at sqn; omega
  | cons u Q =>
  obtain ⟨hu, bq1⟩ := bq.take
  refine ldS_of (p := sq.a) (n := sq.n) (c := sq.c) (by rw [cell_own q1]; rfl) (Qu.hd (x := (u : Int)) (cs := ints (nats Q)) q2 (alo_of fun g2 zg2 bg2 kg2 => ?_))
  simp only [add_mk, Nat.zero_add]
  refine stc_of bg2 (by simp) fun g3 zg3 bg3 kg3 => ?_
  simp only [List.set_cons_zero] at bg3
  have fg3 : Fr g.size g g3 := ⟨by omega, fun c hc => by rw [kg3 c (by omega), kg2 c hc]⟩
  have di3 := di.keep fg3
  obtain ⟨sq', q1', q2', q3', q4', q5', q6'⟩ := id di3.q
  have hsq : sq' = sq := by
    have e := q1'.symm.trans ((fg3.blk _ lt4).trans q1)
    simp only [Option.some.injEq, Blk.cells.injEq, List.cons.injEq, Value.slice.injEq, and_true] at e
    obtain ⟨a1, a2, a3⟩ := e
    cases sq; cases sq'; simp_all
  subst hsq
  refine ldS_of (p := sq'.a) (n := sq'.n) (c := sq'.c) (by rw [cell_own q1']; rfl) ?_
  have ql := q2'.le
  refine ⟨by omega, by simp only [Int.ofNat_eq_natCast]; omega, by simp only [Int.ofNat_eq_natCast]; omega, Int.le_refl _, ?_⟩
  refine stc_of q1' (by simp) fun g4 zg4 bg4 kg4 => ?_
  simp only [List.set_cons_zero] at bg4
  have q2p := Qu.pop (x := .int .i64 (u : Int)) (cs := ints (nats Q)) q2'
  obtain ⟨sp, hsp⟩ : ∃ sp : Sl, sp = ⟨(if (Int.ofNat sq'.c) = 1 then sq'.a else Option.map (fun q => q.add (Int.toNat 1 * 1)) sq'.a), (Int.toNat ((Int.ofNat sq'.n) - 1)), (Int.toNat ((Int.ofNat sq'.c) - 1))⟩ := ⟨_, rfl⟩
  rw [← hsp] at q2p
  have nsp : ∀ c, nb sq' c → nb sp c := fun c hc x hx => by
    obtain ⟨_, _, b, pre, spp, ha, _⟩ := q2'
    have h1 := hc _ ha
    rw [hsp] at hx
    simp only [ha] at hx
    split at hx
    · cases hx; exact h1
    · simp only [Option.map_some, add_mk] at hx; cases hx; exact h1
  have bg4' : g4.blk cq = some (.cells [.slice sp.a sp.n sp.c]) := by rw [hsp]; exact bg4
  have sqne : ∀ x, sq'.a = some x → x.block ≠ cq := fun x hx e => q4' x hx e.symm
  have spne : ∀ x, sp.a = some x → x.block ≠ cq := fun x hx e => nsp cq q4' x hx e.symm
  have di4 : DI h cd cq sd (fun c => c = g.size) W Q g4 := by
    obtain ⟨l1, l2, l3, l4⟩ := di3.lt
    exact ⟨⟨by rw [zg4]; exact di3.fr.size, fun c hc => by rw [kg4 c (by omega), di3.fr.blk c hc]⟩, (kg4 _ di.ne).trans di3.d, di3.ls.keep (by omega) fun x hx => kg4 _ fun e => di.n2 x hx e.symm, ⟨sp, bg4', q2p.keep (by omega) fun x hx => kg4 _ (spne x hx), nsp cd q3', nsp cq q4', fun x hx => nsp _ (q5' x hx), fun c hc => nsp _ (q6' c hc)⟩, di.n1, di.n2, di.ne, by omega, di.x⟩
  have bu4 : g4.blk g.size = some (.cells [.int .i64 (u : Int)]) := by
    rw [kg4 _ (by omega)]; exact bg3
  have F4 := di4.fr
  refine ldI_of (by rw [cell_own bu4]; rfl) ?_
  refine gAround_spec (d.fr F4) (u : Int) _ fun c s2 P g5 hP1 hP2 rs2 sn2 bc c0 c1 hsb f5' r36 => ?_
  have hPu := hP2 u rfl hu
  subst hPu
  have di5 := di4.keep f5'
  have zg5 := f5'.size
  obtain ⟨H0, hH0⟩ : ∃ H0 : Hp, H0 = (g5.pushB none).pushB (some (.lp r36)) := ⟨_, rfl⟩
  rw [← hH0]
  have zH : H0.size = g5.size + 2 := by rw [hH0]; rfl
  have HL : H0.blk (g5.size + 1) = some (.lp r36) := by rw [hH0]; exact pushB_at (g5.pushB none) _
  have HK : ∀ y, y < g5.size → H0.blk y = g5.blk y := fun y hy => by
    rw [hH0, pushB_ne _ _ (by show y ≠ g5.size + 1; omega), pushB_ne _ _ (by omega)]
  have fH : Fr g5.size g5 H0 := ⟨by omega, HK⟩
  have diH := (di5.new (l := g5.size + 1) (by omega)).keep fH
  have dhi := d.hi
  have f5z := F4.size
  simp only [List.length_cons] at hq
  have Wu0 := bq1.k0
  -- round by round: the vertices next to u
  refine iter2_spec (s := s2) (P := fl2 hE (hV M) (arH M m u)) (E := fun _ => False) (by
      rw [sn2, arH_len]
      have := cntB_le (VX M m).length fun k => gt (VX M m) k == u
      rw [VX_len] at this; unfold szp; rw [VX_len]; omega)
    (fun j g' => ∃ W' Q', DI h cd cq sd (fun c => c = g.size ∨ c = g5.size + 1) W' Q' g' ∧ BQ (eP M m) n v0 W' Q' (fun w => w = u) (W.getD u 0) ∧ W'.getD u 0 = W.getD u 0 ∧ Q'.length + negs W' + 1 ≤ q ∧ (∀ w, w < n → W'.getD w 0 + negs W' ≤ n) ∧ g5.size + 2 ≤ g'.size ∧ g'.blk (g5.size + 1) = some (.lp r36) ∧ g'.blk g.size = some (.cells [.int .i64 (u : Int)]) ∧ ∀ i, i < j → ∀ jj, (arH M m u)[i]? = some jj → 0 ≤ W'.getD (VO M jj) 0)
    ?_ ?_ ?_ ?_ ?_ ?_ ?_
  · rintro j g' ⟨W', Q', di', _⟩
    have zf := di'.fr.size
    refine ⟨?_, fun x hx hp => by have := hsb x hx; omega⟩
    have e := rs2.1
    by_cases hz : s2.n * 2 = 0
    · rw [hz, seg_zero] at e ⊢; exact e
    · rw [← e]
      exact seg_blk fun x hx => by
        have := hsb x hx
        rw [di'.fr.blk _ (by omega), di5.fr.blk _ (by omega)]
  · rw [cell_own ((HK c c1).trans bc)]; rfl
  · rintro j g' g'' ⟨W', Q', di', x2, x3, x4, x5, x6, x7, x8, x9⟩ f
    have z := f.size
    exact ⟨W', Q', di'.keep f, x2, x3, x4, x5, by omega, (f.blk _ (by omega)).trans x7, (f.blk _ (by omega)).trans x8, x9⟩
  · rintro j g' Kr' hj ⟨W', Q', di', bq', hWu, hq', hbw', zg', lp', bu', hseen⟩ hKr' _
    obtain ⟨jj, hjj⟩ : ∃ jj, (arH M m u)[j]? = some jj := ⟨_, List.getElem?_eq_getElem (by omega)⟩
    obtain ⟨e1, e2⟩ := fl2_get (f := hE) (g := hV M) hjj
    have hmem := List.mem_of_getElem? hjj
    have ha := arH_adj hmem
    have hwn : VO M jj < n := by
      rcases ha with ha | ha
      · exact (d.pl (Nat.le_refl _) _ _ ha).2
      · exact (d.pl (Nat.le_refl _) _ _ ha).1
    rw [e1, e2]
    show lpIs g' (g5.size + 1) r36 (lpIs g' (g5.size + 1) r36 (lpSet g' (g5.size + 1) (bsy r36) _))
    refine lpRound2 lp' fun a1 az1 al1 ak1 => ?_
    have di1 := di'.oth (.inr rfl) az1 ak1
    obtain ⟨w, hw⟩ : ∃ w, w = VO M jj := ⟨_, rfl⟩
    rw [← hw] at hwn ha
    have hv2 : hV M jj = ((w : Nat) : Int) := by rw [hw]; rfl
    show ldS a1 ⟨cd, 0, none⟩ _
    simp only [hv2]
    have Wl := bq'.len
    have sdn : sd.n = n := n9
    refine ldS_of (p := sd.a) (n := sd.n) (c := sd.c) (by rw [cell_own di1.d]; rfl) (ix_ld1 di1.ls.rd (show (0 : Int) ≤ (w : Int) by omega) (show (w : Int) < (sd.n : Int) by omega) rfl ?_)
    rw [Int.toNat_natCast]
    refine cnd_of (fun cc => ?_) fun cc => ?_
    rotate_left
    · simp only [decide_eq_false_iff_not] at cc
      refine lpRound al1 fun a2 az2 al2 ak2 => hKr' a2 ⟨W', Q', di1.oth (.inr rfl) az2 ak2, bq', hWu, hq', hbw', by omega, al2, ?_, fun i hi jj' hi' => ?_⟩
      · rw [ak2 _ (by omega), ak1 _ (by omega)]; exact bu'
      · by_cases ei : i = j
        · subst ei
          rw [hjj] at hi'
          cases hi'
          rw [← hw]; omega
        · exact hseen i (by omega) jj' hi'
    simp only [decide_eq_true_eq] at cc
    refine ldS_of (p := sd.a) (n := sd.n) (c := sd.c) (by rw [cell_own di1.d]; rfl) (ldS_of (p := sd.a) (n := sd.n) (c := sd.c) (by rw [cell_own di1.d]; rfl) (ldI_of (by rw [cell_own ((ak1 _ (by omega)).trans bu')]; rfl) (ix_ld1 di1.ls.rd (show (0 : Int) ≤ (u : Int) by omega) (show (u : Int) < (sd.n : Int) by omega) rfl ?_)))
    rw [Int.toNat_natCast, hWu]
    have hk0 := bq'.k0
    have hbwu := hbw u hu
    have wk1 : w64 (W.getD u 0 + 1) = W.getD u 0 + 1 := by rw [w64, w64_eq (by omega) (by omega)]
    rw [wk1]
    refine ix_st1 di1.ls (show (0 : Int) ≤ (w : Int) by omega) (show (w : Int) < (sd.n : Int) by omega) rfl fun a2 az2 al2 ak2 => ?_
    rw [Int.toNat_natCast] at al2
    obtain ⟨sqq, r1, r2, r3, r4, r5, r6⟩ := di1.q
    obtain ⟨t1, t2, t3, t4⟩ := di1.lt
    have r1' : a2.blk cq = some (.cells [.slice sqq.a sqq.n sqq.c]) := (ak2 _ di1.n2).trans r1
    have r2' : Qu a2 sqq (ints (nats Q')) h.size := r2.keep (by omega) fun x hx => ak2 _ fun y hy => (r5 y hy x hx).symm
    refine ldS_of (p := sqq.a) (n := sqq.n) (c := sqq.c) (by rw [cell_own r1']; rfl) ?_
    have r2n := r2'.n
    rw [ints_len, nats_len] at r2n
    have zdi := di1.fr.size
    refine Qu.app1 r2' rfl (by omega) (show sqq.n < 2 ^ 40 by omega) fun sq3 a4 lq4 zq4 kq4 => ?_
    have kk : ∀ c, c < a1.size → nb sqq c → nb sd c → a4.blk c = a1.blk c ∧ nb sq3 c := fun c hc h1 h2 => by
      obtain ⟨k1, k2⟩ := kq4 c (by omega) h1
      exact ⟨k1.trans (ak2 c h2), k2⟩
    obtain ⟨k1, k2⟩ := kk cq t4 r4 di1.n2
    obtain ⟨kd1, kd2⟩ := kk cd t2 r3 di1.n1
    refine stc_of (k1.trans r1) (by simp) fun a5 az5 ab5 ak5 => ?_
    simp only [List.set_cons_zero] at ab5
    obtain ⟨xl1, xl2, xl3, xl4⟩ := di1.x (g5.size + 1) (.inr rfl)
    obtain ⟨xu1, xu2, xu3, xu4⟩ := di1.x g.size (.inl rfl)
    have ll := kk (g5.size + 1) (by omega) (r6 _ (.inr rfl)) xl1
    have lu := kk g.size (by omega) (r6 _ (.inl rfl)) xu1
    have ls5 : Lst a5 1 sd (ints (W'.set w (W.getD u 0 + 1))) h.size := al2.keep (by omega) fun x hx => by
      have := (al2.blk_lt hx).2.1
      rw [ak5 _ fun e => di1.n2 x hx e.symm]
      exact (kq4 _ this (r5 x hx)).1
    have di5' : DI h cd cq sd (fun c => c = g.size ∨ c = g5.size + 1) (W'.set w (W.getD u 0 + 1)) (Q' ++ [w]) a5 := by
      refine ⟨⟨by omega, fun c hc => ?_⟩, by rw [ak5 _ di1.ne, kd1]; exact di1.d, ls5, ⟨sq3, ab5, ?_, kd2, k2, fun x hx => ?_, fun c hc => ?_⟩, di1.n1, di1.n2, di1.ne, by omega, di1.x⟩
      · rw [ak5 c (by omega), (kk c (by omega) (fun x hx => by have := (r2.blk_lt hx).1; omega) fun x hx => by have := (di1.ls.blk_lt hx).1; omega).1, di1.fr.blk c hc]
      · rw [nats_app, ints_app]
        exact lq4.keep (by omega) fun x hx => ak5 _ fun e => k2 x hx e.symm
      · have := (al2.blk_lt hx).2.1
        exact (kq4 _ this (r5 x hx)).2
      · rcases hc with rfl | rfl
        · exact lu.2
        · exact ll.2
    have lp5 : a5.blk (g5.size + 1) = some (.lp (bsy r36)) := by rw [ak5 _ xl3, ll.1, al1]
    have bu5 : a5.blk g.size = some (.cells [.int .i64 (u : Int)]) := by rw [ak5 _ xu3, lu.1, ak1 _ (by omega)]; exact bu'
    have bq5 := bq'.add hu hWu hwn ha cc
    have hWl : w < W'.length := by omega
    have hneg := negs_set hWl cc (show 0 ≤ W.getD u 0 + 1 by omega)
    have gset : ∀ y, (W'.set w (W.getD u 0 + 1)).getD y 0 = if y = w then W.getD u 0 + 1 else W'.getD y 0 := fun y => setI_getD hWl
    have huw : u ≠ w := fun e => by rw [← e, hWu] at cc; omega
    refine lpRound lp5 fun a6 az6 al6 ak6 => hKr' a6 ⟨_, _, di5'.oth (.inr rfl) az6 ak6, bq5, by rw [gset, if_neg huw]; exact hWu, by rw [List.length_append]; simp only [List.length_cons, List.length_nil]; omega, fun y hy => ?_, by omega, al6, by rw [ak6 _ (by omega)]; exact bu5, fun i hi jj' hi' => ?_⟩
    · rw [gset]
      have := hbw' y hy
      have := hbw' u hu
      split <;> omega
    · rw [gset]
      split
      · omega
      · rename_i hne
        by_cases ei : i = j
        · subst ei
          rw [hjj] at hi'
          cases hi'
          exact absurd hw.symm hne
        · exact hseen i (by omega) jj' hi'
  · rintro g' ⟨W', Q', di', bq', hWu, hq', hbw', zg', lp', bu', hseen⟩
    refine lpRound lp' fun a2 az2 al2 ak2 => ?_
    obtain ⟨q', rfl⟩ : ∃ q', q = q' + 1 := ⟨q - 1, by omega⟩
    refine hKr q' rfl _ _ ⟨W', Q', _, (di'.oth (.inr rfl) az2 ak2).less fun c hc => hc.elim, bq'.done hWu fun z hz hadj => ?_, by omega, hbw', by omega⟩
    obtain ⟨jj, hjj, rfl⟩ := adj_arH hadj
    obtain ⟨i, hi, ei⟩ := List.getElem_of_mem hjj
    exact hseen i (by omega) jj (by rw [List.getElem?_eq_getElem hi, ei])
  · exact fun _ hf => hf.elim
  · exact ⟨W, Q, diH.less (by intro c hc; exact hc), bq1, rfl, by omega, hbw, by omega, HL, by rw [HK _ (by omega), f5'.blk _ (by omega)]; exact bu4, fun i hi => by omega⟩
end

end Go.Hx
