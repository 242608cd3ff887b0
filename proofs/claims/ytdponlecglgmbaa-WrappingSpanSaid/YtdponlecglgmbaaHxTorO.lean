/- The document's torus, over the abstract heap. No condition. -/
import Derived.Test.YtdponlecglgmbaaHxTorN
namespace Go.Hx
set_option linter.unusedSimpArgs false
set_option linter.unusedVariables false

structure RS (h : Hp) (hs a w t : Nat) (E : List Nat) : Prop where
  w1 : 1 ≤ w
  t1 : 1 ≤ t
  wt : w * t ≤ 4096
  ba : h.blk a = some (.cells [.bool true, .int .i64 (w : Nat), .int .i64 (t : Nat), .slice (some ⟨hs, 0, none⟩) (2 * (w * t)) (2 * (w * t))])
  bh : ∃ Bs : List Bool, Bs.length = 2 * (w * t) ∧ h.blk hs = some (.cells (bools Bs)) ∧ ∀ e, e < 2 * (w * t) → (Bs.getD e false = true ↔ e ∈ E)
  la : a < h.size
  lh : hs < a
  hE : ∀ e, e ∈ E → e < 2 * (w * t)

theorem RS.keep {h h' : Hp} {hs a w t : Nat} {E : List Nat} (d : RS h hs a w t E) (hz : h.size ≤ h'.size) (hb : ∀ c, hs ≤ c → c ≤ a → h'.blk c = h.blk c) : RS h' hs a w t E := by
  obtain ⟨Bs, h1, h2, h3⟩ := d.bh
  exact ⟨d.w1, d.t1, d.wt, (hb a (by have := d.lh; omega) (Nat.le_refl _)).trans d.ba, ⟨Bs, h1, (hb hs (Nat.le_refl _) (by have := d.lh; omega)).trans h2, h3⟩, by have := d.la; omega, d.lh, d.hE⟩

theorem RS.fr {h h' : Hp} {hs a w t : Nat} {E : List Nat} (d : RS h hs a w t E) (f : Fr h.size h h') : RS h' hs a w t E :=
  d.keep f.size fun c _ hc => f.blk _ (by have := d.la; omega)

theorem RS.has {h : Hp} {hs a w t : Nat} {E : List Nat} (d : RS h hs a w t E) {e : Nat} (he : e < 2 * (w * t)) : ∃ b, h.cell ⟨hs, e, none⟩ = some (.bool b) ∧ (b = true ↔ e ∈ E) := by
  obtain ⟨Bs, h1, h2, h3⟩ := d.bh
  exact ⟨_, by rw [cell_own h2, bools_get (by omega)], h3 e he⟩

theorem RS.cell {h : Hp} {hs a w t : Nat} {E : List Nat} (d : RS h hs a w t E) (k : Nat) : h.cell ⟨a, k, none⟩ = [Value.bool true, .int .i64 (w : Nat), .int .i64 (t : Nat), .slice (some ⟨hs, 0, none⟩) (2 * (w * t)) (2 * (w * t))][k]? := cell_own d.ba k

theorem eR_Rb {w t : Nat} {E : List Nat} (hw : 1 ≤ w) (ht : 1 ≤ t) (hE : ∀ e, e ∈ E → e < 2 * (w * t)) (u x : Nat) (s q : Int) (e : eR w t E u x s q) : u < w * t ∧ x < w * t := by
  obtain ⟨e, he, rfl, rfl, _⟩ := e
  have := hE e he
  exact ⟨by omega, toV_lt hw ht (by omega)⟩

theorem ends_spec {h : Hp} {hs a w t : Nat} {E : List Nat} (d : RS h hs a w t E) {e : Nat} (he : e < 2 * (w * t)) (K : Int → Int → Hp → Prop) (hK : K (e / 2 : Nat) (toV w t (e / 2) (e % 2) : Nat) h) : g_ref30_Torus_ends (some ⟨a, 0, none⟩) (e : Nat) h K := by
  have hw1 := d.w1; have ht1 := d.t1; have hwt := d.wt
  have hv : e / 2 < w * t := by omega
  have hto := toV_lt (D := e % 2) hw1 ht1 hv
  have m1 : Int.tmod (e : Int) 2 = ((e % 2 : Nat) : Int) := by rw [Int.tmod_eq_emod_of_nonneg (by omega)]; omega
  have m2 : IntKind.i64.wrap (Int.tdiv (e : Int) 2) = ((e / 2 : Nat) : Int) := by rw [Int.tdiv_eq_ediv_of_nonneg (by omega), w64_eq (by omega) (by omega)]; omega
  have m3 : IntKind.i64.wrap (Int.tdiv ((e / 2 : Nat) : Int) (w : Int)) = ((e / 2 / w : Nat) : Int) := by
    rw [Int.tdiv_eq_ediv_of_nonneg (by omega), ← Int.natCast_ediv, w64n (by have := Nat.div_le_self (e / 2) w; omega)]
  have m4 : Int.tmod ((e / 2 : Nat) : Int) (w : Int) = ((e / 2 % w : Nat) : Int) := by rw [Int.tmod_eq_emod_of_nonneg (by omega), ← Int.natCast_emod]
  have l1 : e / 2 % w < w := Nat.mod_lt _ hw1
  have hwn : w ≤ w * t := Nat.le_mul_of_pos_right _ ht1
  have htn : t ≤ w * t := Nat.le_mul_of_pos_left _ hw1
  have l2 : e / 2 / w < t := (Nat.div_lt_iff_lt_mul (by omega)).2 (by rw [Nat.mul_comm]; exact hv)
  unfold g_ref30_Torus_ends
  refine ⟨by omega, nn_of ?_⟩
  simp only [add_mk, Nat.zero_add]
  refine ldI_of (by rw [d.cell]; rfl) ⟨by omega, nn_of ?_⟩
  simp only [add_mk, Nat.zero_add]
  refine ldI_of (by rw [d.cell]; rfl) ⟨by omega, by omega, ?_⟩
  simp only [w64, m1, m2, m3, m4]
  refine cnd_of (fun c => nn_of ?_) fun c => nn_of ?_
  · simp only [add_mk, Nat.zero_add]
    refine ldI_of (by rw [d.cell]; rfl) (nn_of ?_)
    simp only [add_mk, Nat.zero_add]
    refine ldI_of (by rw [d.cell]; rfl) ⟨by omega, ?_⟩
    have c0 : e % 2 = 0 := by simp only [beq_iff_eq] at c; omega
    have a1 : IntKind.i64.wrap (((e / 2 % w : Nat) : Int) + 1) = ((e / 2 % w + 1 : Nat) : Int) := by rw [← w64n (n := e / 2 % w + 1) (by omega)]; rfl
    have hm : (e / 2 % w + 1) % w < w := Nat.mod_lt _ hw1
    have hm2 := vtx_lt hm l2
    have a2 : Int.tmod ((e / 2 % w + 1 : Nat) : Int) (w : Int) = ((e / 2 % w + 1) % w : Nat) := by rw [Int.tmod_eq_emod_of_nonneg (Int.natCast_nonneg _), ← Int.natCast_emod]
    rw [a1, a2, ← Int.natCast_mul, w64n (by omega), ← Int.natCast_add, w64n (by omega)]
    simp only [toV, c0, if_true] at hK
    exact hK
  · simp only [add_mk, Nat.zero_add]
    refine ldI_of (by rw [d.cell]; rfl) ⟨by omega, nn_of ?_⟩
    simp only [add_mk, Nat.zero_add]
    refine ldI_of (by rw [d.cell]; rfl) ?_
    have c0 : e % 2 ≠ 0 := by simp only [beq_eq_false_iff_ne] at c; omega
    have a1 : IntKind.i64.wrap (((e / 2 / w : Nat) : Int) + 1) = ((e / 2 / w + 1 : Nat) : Int) := by rw [← w64n (n := e / 2 / w + 1) (by omega)]; rfl
    have hm : (e / 2 / w + 1) % t < t := Nat.mod_lt _ ht1
    have hm2 := vtx_lt l1 hm
    have a2 : Int.tmod ((e / 2 / w + 1 : Nat) : Int) (t : Int) = ((e / 2 / w + 1) % t : Nat) := by rw [Int.tmod_eq_emod_of_nonneg (Int.natCast_nonneg _), ← Int.natCast_emod]
    rw [a1, a2, ← Int.natCast_mul, w64n (by omega), ← Int.natCast_add, w64n (by omega)]
    simp only [toV, if_neg c0] at hK
    exact hK

/-- The three rows of marks. -/
structure WB (h : Hp) (B p q r n : Nat) (F X Y : List Int) : Prop where
  bp : h.blk p = some (.cells (ints F))
  bq : h.blk q = some (.cells (ints X))
  br : h.blk r = some (.cells (ints Y))
  ip : B ≤ p ∧ p < h.size
  iq : B ≤ q ∧ q < h.size
  ir : B ≤ r ∧ r < h.size
  pq : p ≠ q
  pr' : p ≠ r
  qr : q ≠ r

abbrev slB (p n : Nat) : Sl := ⟨some ⟨p, 0, none⟩, n, n⟩

theorem gi_cell {h : Hp} {p n : Nat} {F : List Int} (b : h.blk p = some (.cells (ints F))) (l : F.length = n) {i : Nat} (hi : i < n) : h.cell ⟨p, i, none⟩ = some (.int .i64 (gi F i)) := by
  rw [cell_own b, ints_getD (by omega)]; rfl

theorem stv (e : Nat) : ((e % 2 : Nat) : Int) = stY (e % 2) ∧ (1 : Int) - ((e % 2 : Nat) : Int) = stX (e % 2) := by
  unfold stX stY
  rcases Nat.mod_two_eq_zero_or_one e with h | h <;> simp [h]

/-- The rows of marks change, nothing else. -/
structure WQ (g0 g : Hp) (p q r : Nat) (F X Y : List Int) : Prop where
  z : g.size = g0.size
  k : ∀ x, x ≠ p → x ≠ q → x ≠ r → g.blk x = g0.blk x
  bp : g.blk p = some (.cells (ints F))
  bq : g.blk q = some (.cells (ints X))
  br : g.blk r = some (.cells (ints Y))

/-- One element of each row is set. -/
theorem set3 {g0 g : Hp} {c p q r n : Nat} {F X Y : List Int} (d : WQ g0 g p q r F X Y) (lf : F.length = n) (lx : X.length = n) (ly : Y.length = n) (n1 : p ≠ q) (n2 : p ≠ r) (n3 : q ≠ r) (n4 : c ≠ p) (n5 : c ≠ q) (n6 : c ≠ r)
    (hc : g0.blk c = some (.cells [.slice (some ⟨p, 0, none⟩) n n, .slice (some ⟨q, 0, none⟩) n n, .slice (some ⟨r, 0, none⟩) n n])) {b : Nat} (hb : b < n) (v x y : Int) (K : Hp → Prop) (hK : ∀ g', WQ g0 g' p q r (F.set b v) (X.set b x) (Y.set b y) → K g') :
    ix (some ⟨p, 0, none⟩) n (b : Nat) fun a74 => stc g ((a74.add (Int.toNat (b : Nat) * 1)).add 0) (.int .i64 v) fun h75 =>
      (h75.cell (((⟨c, 0, none⟩ : Addr).add 2).add 0) = some (.slice (some ⟨r, 0, none⟩) n n)) ∧
      (h75.cell (((⟨c, 0, none⟩ : Addr).add 1).add 0) = some (.slice (some ⟨q, 0, none⟩) n n)) ∧
      ix (some ⟨q, 0, none⟩) n (b : Nat) fun a76 => stc h75 ((a76.add (Int.toNat (b : Nat) * 1)).add 0) (.int .i64 x) fun h77 =>
      (h77.cell (((⟨c, 0, none⟩ : Addr).add 2).add 0) = some (.slice (some ⟨r, 0, none⟩) n n)) ∧
      ix (some ⟨r, 0, none⟩) n (b : Nat) fun a78 => stc h77 ((a78.add (Int.toNat (b : Nat) * 1)).add 0) (.int .i64 y) fun h79 => K h79 := by
  refine ix_of (by omega) (by omega) ?_
  simp only [add_mk, Nat.zero_add, Nat.add_zero, Nat.mul_one, show Int.toNat (b : Int) = b from rfl]
  refine stc_of d.bp (by rw [ints_len]; omega) fun h1 z1 b1 k1 => ?_
  have c1 := (k1 c n4).trans ((d.k c n4 n5 n6).trans hc)
  refine ⟨by rw [cell_own c1]; rfl, by rw [cell_own c1]; rfl, ix_of (by omega) (by omega) ?_⟩
  simp only [add_mk, Nat.zero_add, Nat.add_zero, Nat.mul_one, show Int.toNat (b : Int) = b from rfl]
  refine stc_of ((k1 q (Ne.symm n1)).trans d.bq) (by rw [ints_len]; omega) fun h2 z2 b2 k2 => ?_
  have c2 := (k2 c n5).trans c1
  refine ⟨by rw [cell_own c2]; rfl, ix_of (by omega) (by omega) ?_⟩
  simp only [add_mk, Nat.zero_add, Nat.add_zero, Nat.mul_one, show Int.toNat (b : Int) = b from rfl]
  refine stc_of ((k2 r (Ne.symm n3)).trans ((k1 r (Ne.symm n2)).trans d.br)) (by rw [ints_len]; omega) fun h3 z3 b3 k3 => hK h3 ⟨by rw [z3, z2, z1, d.z], fun x hp hq hr => by rw [k3 x hr, k2 x hq, k1 x hp, d.k x hp hq hr], ?_, ?_, ?_⟩
  · rw [k3 _ n2, k2 _ n1, b1, ints_set]
  · rw [k3 _ n3, b2, ints_set]
  · rw [b3, ints_set]

set_option maxHeartbeats 2000000 in
theorem walked_spec {h : Hp} {hs a w t : Nat} {E : List Nat} (d : RS h hs a w t E) (K : Sl → Sl → Sl → Hp → Prop)
    (hK : ∀ h' p q r F X Y, Fr h.size h h' → WB h' h.size p q r (w * t) F X Y → WI (eR w t E) (w * t) (w * t) (w * t) F X Y → K (slB p (w * t)) (slB q (w * t)) (slB r (w * t)) h') : g_ref30_Torus_walked (some ⟨a, 0, none⟩) h K := by
  have hw1 := d.w1; have ht1 := d.t1; have hwt := d.wt
  obtain ⟨n, hn⟩ : ∃ n, n = w * t := ⟨_, rfl⟩
  have e1 : IntKind.i64.wrap ((w : Int) * t) = (n : Int) := by rw [← Int.natCast_mul, w64n (by omega), hn]
  have e2 : IntKind.i64.wrap (2 * (n : Int)) = ((2 * n : Nat) : Int) := by rw [w64_eq (by omega) (by omega)]; omega
  have Rb := eR_Rb hw1 ht1 d.hE
  rw [← hn] at Rb hK hwt
  unfold g_ref30_Torus_walked
  refine alo_of fun h2 z2 b2 k2 => ?_
  have d2 := d.fr (h' := h2) ⟨by omega, k2⟩
  refine nn_of ?_
  simp only [add_mk, Nat.zero_add]
  refine ldI_of (by rw [d2.cell]; rfl) (nn_of ?_)
  simp only [add_mk, Nat.zero_add]
  refine ldI_of (by rw [d2.cell]; rfl) ?_
  simp only [w64, e1, e2]
  refine jn_of (fun s g => ∃ c p q r : Nat, s.1 = ⟨c, 0, none⟩ ∧ Fr h.size h g ∧ g.blk h.size = h2.blk h.size ∧ g.blk c = some (.cells [.slice (some ⟨p, 0, none⟩) n n, .slice (some ⟨q, 0, none⟩) n n, .slice (some ⟨r, 0, none⟩) n n]) ∧ h.size < c ∧ c < g.size ∧ h.size < p ∧ h.size < q ∧ h.size < r ∧
    c ≠ p ∧ c ≠ q ∧ c ≠ r ∧ WB g h.size p q r n (List.replicate n 0) (List.replicate n 0) (List.replicate n 0)) ?_ fun K9 hK9 => ?_
  case refine_2 =>
    have leaf : ∀ (g : Hp) (c p q r : Nat) (x : List Value), x.length = 3 → (h2.size ≤ g.size ∧ ∀ c, c < h2.size → g.blk c = h2.blk c) → g.blk c = some (.cells x) → g.blk p = some (.cells (zrow [.int .i64 0] n)) → g.blk q = some (.cells (zrow [.int .i64 0] n)) → g.blk r = some (.cells (zrow [.int .i64 0] n)) →
        ((h2.size ≤ c ∧ c < g.size) ∧ (h2.size ≤ p ∧ p < g.size) ∧ (h2.size ≤ q ∧ q < g.size) ∧ (h2.size ≤ r ∧ r < g.size) ∧ p ≠ q ∧ p ≠ r ∧ q ≠ r ∧ c ≠ p ∧ c ≠ q ∧ c ≠ r) →
        stc g ⟨c, 0, none⟩ (.slice (some ⟨p, 0, none⟩) n n) fun h1 => stc h1 ⟨c, 1, none⟩ (.slice (some ⟨q, 0, none⟩) n n) fun h2 => stc h2 ⟨c, 2, none⟩ (.slice (some ⟨r, 0, none⟩) n n) fun h3 => K9 (⟨c, 0, none⟩, ()) h3 := by
      intro g c p q r x hx ⟨zg, kg⟩ bc bp bq br ⟨ic, ip, iq, ir, n1, n2, n3, n4, n5, n6⟩
      obtain ⟨x0, x1, x2, rfl⟩ : ∃ x0 x1 x2, x = [x0, x1, x2] := by
        match x, hx with
        | [x0, x1, x2], _ => exact ⟨_, _, _, rfl⟩
      refine stc_of bc (by simp) fun g1 z1 b1 k1 => stc_of b1 (by simp) fun g2 z2' b2' k2' => stc_of b2' (by simp) fun g3 z3 b3 k3 => hK9 _ _ ⟨c, p, q, r, rfl, ?_, ?_, b3, by omega, by omega, by omega, by omega, by omega, n4, n5, n6, ?_⟩
      · exact ⟨by omega, fun c' hc => by rw [k3 _ (by omega), k2' _ (by omega), k1 _ (by omega), kg _ (by omega), k2 _ hc]⟩
      · rw [k3 _ (by omega), k2' _ (by omega), k1 _ (by omega), kg _ (by omega)]
      · have zr : zrow [.int .i64 0] n = ints (List.replicate n 0) := by rw [zrow_one]; simp [ints]
        rw [zr] at bp bq br
        exact ⟨by rw [k3 _ (Ne.symm n4), k2' _ (Ne.symm n4), k1 _ (Ne.symm n4), bp], by rw [k3 _ (Ne.symm n5), k2' _ (Ne.symm n5), k1 _ (Ne.symm n5), bq], by rw [k3 _ (Ne.symm n6), k2' _ (Ne.symm n6), k1 _ (Ne.symm n6), br], ⟨by omega, by omega⟩, ⟨by omega, by omega⟩, ⟨by omega, by omega⟩, n1, n2, n3⟩
    refine ⟨?_, ?_, ?_, ?_⟩ <;>
      first
        | (refine mks_of (by omega) (by omega) (by omega) fun ha za ba ka => ⟨?_, ?_, ?_⟩)
        | (refine alo_of fun ha za ba ka => ⟨?_, ?_, ?_⟩)
    all_goals
      first
        | (refine mks_of (by omega) (by omega) (by omega) fun hb' zb bb kb => ⟨?_, ?_⟩)
        | (refine alo_of fun hb' zb bb kb => ⟨?_, ?_⟩)
    all_goals
      first
        | (refine mks_of (by omega) (by omega) (by omega) fun hc zc bc kc => mks_of (by omega) (by omega) (by omega) fun hd zd bd kd => ?_)
        | (refine mks_of (by omega) (by omega) (by omega) fun hc zc bc kc => alo_of fun hd zd bd kd => ?_)
        | (refine alo_of fun hc zc bc kc => mks_of (by omega) (by omega) (by omega) fun hd zd bd kd => ?_)
    all_goals
      simp only [add_mk, Nat.zero_add]
      have ba' := (kd h2.size (by omega)).trans ((kc _ (by omega)).trans ((kb _ (by omega)).trans ba))
      have bb' := (kd ha.size (by omega)).trans ((kc _ (by omega)).trans bb)
      have bc' := (kd hb'.size (by omega)).trans bc
      refine leaf hd _ _ _ _ _ ?_ ⟨by omega, fun c hcc => by rw [kd _ (by omega), kc _ (by omega), kb _ (by omega), ka _ hcc]⟩ (by first | exact bd | exact bc' | exact bb' | exact ba') (by first | exact bd | exact bc' | exact bb' | exact ba') (by first | exact bd | exact bc' | exact bb' | exact ba') (by first | exact bd | exact bc' | exact bb' | exact ba') (by omega)
      rfl
  rintro ⟨_, u⟩ g0 ⟨c, p, q, r, rfl, f0, bh, bc, ic1, ic2, jp, jq, jr, n4, n5, n6, W0⟩
  have z0 := f0.size
  have n1 := W0.pq; have n2 := W0.pr'; have n3 := W0.qr
  have ip := W0.ip; have iq := W0.iq; have ir := W0.ir
  have d0 : ∀ {g : Hp} {F X Y : List Int}, WQ g0 g p q r F X Y → RS g hs a w t E := fun {g F X Y} dq => d.keep (by rw [dq.z]; exact z0) fun x h1 h2 => by
    have := d.la
    rw [dq.k x (by omega) (by omega) (by omega), f0.blk x (by omega)]
  have c0 : ∀ {g : Hp} {F X Y : List Int}, WQ g0 g p q r F X Y → g.blk c = some (.cells [.slice (some ⟨p, 0, none⟩) n n, .slice (some ⟨q, 0, none⟩) n n, .slice (some ⟨r, 0, none⟩) n n]) := fun {g F X Y} dq => (dq.k c n4 n5 n6).trans bc
  simp only [add_mk, Nat.zero_add]
  refine jn_of (fun _ g => WQ g0 g p q r (List.replicate n (-1)) (List.replicate n 0) (List.replicate n 0)) ?_ fun K12 hK12 => ?_
  case refine_2 =>
    refine for_of n (fun k (s : Int × Unit) g => s.1 = (k : Int) ∧ ∃ F : List Int, F.length = n ∧ (∀ i, i < k → gi F i = -1) ∧ WQ g0 g p q r F (List.replicate n 0) (List.replicate n 0)) ?_ ⟨rfl, List.replicate n 0, by simp, fun i hi => by omega, ⟨rfl, fun _ _ _ _ => rfl, W0.bp, W0.bq, W0.br⟩⟩
    rintro k Kr ⟨s, u⟩ g hk ⟨rfl, F, lf, hF, dq⟩ hKr
    refine cnd_of (fun cc => ?_) fun cc => ?_
    · simp only [decide_eq_true_eq] at cc
      have hkn : k < n := by omega
      refine ldS_of (by rw [cell_own (c0 dq)]; rfl) (ix_of (by omega) (by first | omega | (simp only; omega)) ?_)
      simp only [add_mk, Nat.zero_add, Nat.add_zero, Nat.mul_one, show Int.toNat (k : Int) = k from rfl]
      refine stc_of dq.bp (by rw [ints_len]; omega) fun g1 z1 b1 k1 => hKr hkn _ _ ⟨?_, F.set k (-1), by simp [lf], fun i hi => ?_, ⟨by rw [z1, dq.z], fun x hp hq hr => by rw [k1 x hp, dq.k x hp hq hr], by rw [b1, ints_set], by rw [k1 _ (Ne.symm n1), dq.bq], by rw [k1 _ (Ne.symm n2), dq.br]⟩⟩
      · simp only; rw [w64_eq (by omega) (by omega)]; omega
      · rw [gi_set]
        by_cases e : k = i
        · rw [if_pos ⟨e, by omega⟩]
        · rw [if_neg (fun q => e q.1)]; exact hF i (by omega)
    · simp only [decide_eq_false_iff_not] at cc
      obtain rfl : k = n := by omega
      have : F = List.replicate k (-1) := by
        refine List.ext_getElem (by simp [lf]) fun i h1 h2 => ?_
        have := hF i (by omega)
        simp [gi, List.getD, List.getElem?_eq_getElem h1] at this
        simp [this]
      subst this
      exact hK12 _ _ dq
  rintro ⟨⟩ g1 dq1
  refine for_of n (fun k (s : Int × Unit) g => s.1 = (k : Int) ∧ ∃ F X Y : List Int, WQ g0 g p q r F X Y ∧ WI (eR w t E) n k k F X Y) ?_ ⟨rfl, _, _, _, dq1, WI.start n _⟩
  rintro k Kr ⟨s, u⟩ g hk ⟨rfl, F, X, Y, dq, wi⟩ hKr
  refine cnd_of (fun cc => ?_) fun cc => ?_
  · simp only [decide_eq_true_eq] at cc
    have hkn : k < n := by omega
    have ek : IntKind.i64.wrap ((k : Int) + 1) = ((k + 1 : Nat) : Int) := by rw [w64_eq (by omega) (by omega)]; omega
    simp only [ek]
    refine ldS_of (by rw [cell_own (c0 dq)]; rfl) (ix_of (by omega) (by first | omega | (simp only; omega)) ?_)
    simp only [add_mk, Nat.zero_add, Nat.add_zero, Nat.mul_one, show Int.toNat (k : Int) = k from rfl]
    refine ldI_of (gi_cell dq.bp wi.lf hkn) (cnd_of (fun c1 => ?_) fun c1 => ?_)
    · simp only [decide_eq_true_eq] at c1
      exact hKr hkn _ _ ⟨rfl, F, X, Y, dq, wi.skip Rb c1⟩
    simp only [decide_eq_false_iff_not] at c1
    refine ldS_of (by rw [cell_own (c0 dq)]; rfl) (ix_of (by omega) (by first | omega | (simp only; omega)) ?_)
    simp only [add_mk, Nat.zero_add, Nat.add_zero, Nat.mul_one, show Int.toNat (k : Int) = k from rfl]
    refine stc_of dq.bp (by rw [ints_len, wi.lf]; omega) fun g2 z2' b2' k2' => ?_
    have dq2 : WQ g0 g2 p q r (F.set k (k : Int)) X Y := ⟨by rw [z2', dq.z], fun x hp hq hr => by rw [k2' x hp, dq.k x hp hq hr], by rw [b2', ints_set], by rw [k2' _ (Ne.symm n1), dq.bq], by rw [k2' _ (Ne.symm n2), dq.br]⟩
    obtain ⟨wi2, _⟩ := wi.root hkn (by omega)
    have fk2 : gi (F.set k (k : Int)) k = k := by rw [gi_set, if_pos ⟨rfl, by rw [wi.lf]; omega⟩]
    clear dq wi c1
    revert wi2 dq2 fk2
    generalize F.set k (k : Int) = F0
    intro dq2 wi2 fk2
    -- until nothing changes
    refine loop_of (fun m (s : Bool × Unit) g => ∃ F X Y : List Int, WQ g0 g p q r F X Y ∧ WI (eR w t E) n (k + 1) k F X Y ∧ gi F k = (k : Int) ∧ (s.1 = true → cu n F < m) ∧
      (s.1 = false → ∀ e, e ∈ E → (gi F (e / 2) = (k : Int) → 0 ≤ gi F (toV w t (e / 2) (e % 2))) ∧ (gi F (toV w t (e / 2) (e % 2)) = (k : Int) → 0 ≤ gi F (e / 2)))) ?_ (n := cu n F0 + 1) ⟨F0, X, Y, dq2, wi2, fk2, fun _ => by omega, fun q => by cases q⟩
    rintro m Kw ⟨ch, u⟩ g3 ⟨F1, X1, Y1, dq3, wi3, fk3, hm, hcl⟩ hKw
    refine cnd_of (fun c1 => ?_) fun c1 => ?_
    · simp only at c1
      have hm := hm c1
      refine for_of (2 * n) (fun e (s : Bool × Int × Unit) g => s.2.1 = (e : Int) ∧ ∃ F X Y : List Int, WQ g0 g p q r F X Y ∧ WI (eR w t E) n (k + 1) k F X Y ∧ gi F k = (k : Int) ∧ cu n F ≤ cu n F1 ∧ (s.1 = true → cu n F < cu n F1) ∧
        (s.1 = false → ∀ e', e' < e → e' ∈ E → (gi F (e' / 2) = (k : Int) → 0 ≤ gi F (toV w t (e' / 2) (e' % 2))) ∧ (gi F (toV w t (e' / 2) (e' % 2)) = (k : Int) → 0 ≤ gi F (e' / 2)))) ?_ ⟨rfl, F1, X1, Y1, dq3, wi3, fk3, Nat.le_refl _, (fun q => by cases q), fun _ e' he => by omega⟩
      rintro e Ke ⟨ch, s, u⟩ g4 he ⟨h0, F2, X2, Y2, dq4, wi4, fk4, hle, hlt, hcl⟩ hKe
      simp only at h0 hlt hcl
      subst h0
      refine cnd_of (fun c2 => ?_) fun c2 => ?_
      · simp only [decide_eq_true_eq] at c2
        have hen : e < 2 * n := by omega
        have ee : IntKind.i64.wrap ((e : Int) + 1) = ((e + 1 : Nat) : Int) := by rw [w64_eq (by omega) (by omega)]; omega
        simp only [ee]
        have d4 := d0 dq4
        refine nn_of ?_
        simp only [add_mk, Nat.zero_add]
        refine ldS_of (by rw [d4.cell]; rfl) (ix_of (by omega) (by first | omega | (simp only; omega)) ?_)
        simp only [add_mk, Nat.zero_add, Nat.add_zero, Nat.mul_one, show Int.toNat (e : Int) = e from rfl]
        obtain ⟨b, hb1, hb2⟩ := d4.has (e := e) (by omega)
        refine ldB_of hb1 (cnd_of (fun c3 => ?_) fun c3 => ?_)
        · have nE : e ∉ E := fun q => by rw [hb2.2 q] at c3; cases c3
          refine hKe hen _ _ ⟨rfl, F2, X2, Y2, dq4, wi4, fk4, hle, hlt, fun q e' he' hE => hcl q e' ?_ hE⟩
          have : e' ≠ e := fun q => nE (q ▸ hE)
          omega
        have iE : e ∈ E := hb2.1 (by simpa using c3)
        have ha : e / 2 < n := by omega
        have hv := toV_lt (D := e % 2) hw1 ht1 (show e / 2 < w * t by omega)
        rw [← hn] at hv
        have hR : eR w t E (e / 2) (toV w t (e / 2) (e % 2)) (stX (e % 2)) (stY (e % 2)) := ⟨e, iE, rfl, rfl, rfl, rfl⟩
        refine ends_spec d4 (by omega) _ ⟨by omega, by omega, ?_⟩
        have m1 : Int.tmod (e : Int) 2 = stY (e % 2) := by rw [Int.tmod_eq_emod_of_nonneg (by omega), ← (stv e).1]; omega
        have sl0 := st_le (e % 2) false; have sl1 := st_le (e % 2) true
        simp only [pr] at sl0 sl1
        have m2 : IntKind.i64.wrap (1 - stY (e % 2)) = stX (e % 2) := by rw [w64_eq (by omega) (by omega), ← (stv e).1, (stv e).2]
        simp only [m1, m2]
        -- there
        refine jn_of (fun s g => ∃ F X Y : List Int, WQ g0 g p q r F X Y ∧ WI (eR w t E) n (k + 1) k F X Y ∧ gi F k = (k : Int) ∧ cu n F ≤ cu n F1 ∧ (s.1 = true → cu n F < cu n F1) ∧ (gi F (e / 2) = (k : Int) → 0 ≤ gi F (toV w t (e / 2) (e % 2))) ∧
          (s.1 = false → ∀ e', e' < e → e' ∈ E → (gi F (e' / 2) = (k : Int) → 0 ≤ gi F (toV w t (e' / 2) (e' % 2))) ∧ (gi F (toV w t (e' / 2) (e' % 2)) = (k : Int) → 0 ≤ gi F (e' / 2)))) ?_ fun K37 hK37 => ?_
        case refine_2 =>
          refine jn_of (fun s g => g = g4 ∧ (s.1 = true ↔ gi F2 (e / 2) = (k : Int) ∧ gi F2 (toV w t (e / 2) (e % 2)) < 0)) ?_ fun K64 hK64 => ?_
          case refine_2 =>
            refine ldS_of (by rw [cell_own (c0 dq4)]; rfl) (ix_of (by omega) (by first | omega | (simp only; omega)) ?_)
            simp only [add_mk, Nat.zero_add, Nat.add_zero, Nat.mul_one, Int.toNat_natCast]
            refine ldI_of (gi_cell dq4.bp wi4.lf ha) (cnd_of (fun c4 => ?_) fun c4 => hK64 _ _ ⟨rfl, ?_⟩)
            · refine ldS_of (by rw [cell_own (c0 dq4)]; rfl) (ix_of (by omega) (by first | omega | (simp only; omega)) ?_)
              simp only [add_mk, Nat.zero_add, Nat.add_zero, Nat.mul_one, Int.toNat_natCast]
              refine ldI_of (gi_cell dq4.bp wi4.lf hv) (hK64 _ _ ⟨rfl, ?_⟩)
              simp only [beq_iff_eq] at c4
              simp [c4]
            · simp only [beq_eq_false_iff_ne] at c4
              simp [c4]
          rintro ⟨cb, u⟩ g4 ⟨rfl, hcb⟩
          simp only at hcb
          refine cnd_of (fun c4 => ?_) fun c4 => ?_
          · obtain ⟨fa, fb⟩ := hcb.1 c4
            have bd := wi4.bnd (e / 2) ha
            refine ldS_of (by rw [cell_own (c0 dq4)]; rfl) (ldS_of (by rw [cell_own (c0 dq4)]; rfl) (ldS_of (by rw [cell_own (c0 dq4)]; rfl) (ldS_of (by rw [cell_own (c0 dq4)]; rfl) (ix_of (by omega) (by first | omega | (simp only; omega)) ?_))))
            simp only [add_mk, Nat.zero_add, Nat.add_zero, Nat.mul_one, Int.toNat_natCast]
            refine ldI_of (gi_cell dq4.bq wi4.lx ha) (ldS_of (by rw [cell_own (c0 dq4)]; rfl) (ix_of (by omega) (by first | omega | (simp only; omega)) ?_))
            simp only [add_mk, Nat.zero_add, Nat.add_zero, Nat.mul_one, Int.toNat_natCast]
            refine ldI_of (gi_cell dq4.br wi4.ly ha) ?_
            rw [w64_eq (x := gi X2 (e / 2) + stX (e % 2)) (by omega) (by omega), w64_eq (x := gi Y2 (e / 2) + stY (e % 2)) (by omega) (by omega)]
            obtain ⟨wi5, hc5⟩ := wi4.mark ha hv fa fb (.one hR) (by omega) (by omega)
            have := set3 dq4 wi4.lf wi4.lx wi4.ly n1 n2 n3 n4 n5 n6 bc hv (k : Int) (gi X2 (e / 2) + stX (e % 2)) (gi Y2 (e / 2) + stY (e % 2)) (fun g => K37 (true, ()) g) fun g5 dq5 => hK37 _ _ ⟨_, _, _, dq5, wi5, ?_, by omega, fun _ => by omega, fun _ => ?_, fun q => by cases q⟩
            · simpa only [add_mk, Nat.zero_add, Nat.add_zero, Nat.mul_one, Int.toNat_natCast] using this
            · rw [gi_set]; split
              · rfl
              · exact fk4
            · rw [gi_set, if_pos ⟨rfl, by rw [wi4.lf]; exact hv⟩]; omega
          · refine hK37 _ _ ⟨F2, X2, Y2, dq4, wi4, fk4, hle, hlt, fun q => ?_, hcl⟩
            rcases Int.lt_or_le (gi F2 (toV w t (e / 2) (e % 2))) 0 with g | g
            · rw [hcb.2 ⟨q, g⟩] at c4; cases c4
            · exact g
        clear hcl hlt hle fk4 wi4 d4 hb1
        clear dq4
        rintro ⟨ch1, u⟩ g4 ⟨F2, X2, Y2, dq4, wi4, fk4, hle, hlt, hcl0, hcl⟩
        simp only at hlt hcl
        -- and back
        refine jn_of (fun s g => g = g4 ∧ (s.1 = true ↔ gi F2 (toV w t (e / 2) (e % 2)) = (k : Int) ∧ gi F2 (e / 2) < 0)) ?_ fun K64 hK64 => ?_
        case refine_2 =>
          refine ldS_of (by rw [cell_own (c0 dq4)]; rfl) (ix_of (by omega) (by first | omega | (simp only; omega)) ?_)
          simp only [add_mk, Nat.zero_add, Nat.add_zero, Nat.mul_one, Int.toNat_natCast]
          refine ldI_of (gi_cell dq4.bp wi4.lf hv) (cnd_of (fun c4 => ?_) fun c4 => hK64 _ _ ⟨rfl, ?_⟩)
          · refine ldS_of (by rw [cell_own (c0 dq4)]; rfl) (ix_of (by omega) (by first | omega | (simp only; omega)) ?_)
            simp only [add_mk, Nat.zero_add, Nat.add_zero, Nat.mul_one, Int.toNat_natCast]
            refine ldI_of (gi_cell dq4.bp wi4.lf ha) (hK64 _ _ ⟨rfl, ?_⟩)
            simp only [beq_iff_eq] at c4
            simp [c4]
          · simp only [beq_eq_false_iff_ne] at c4
            simp [c4]
        rintro ⟨cb, u⟩ g4 ⟨rfl, hcb⟩
        simp only at hcb
        refine cnd_of (fun c4 => ?_) fun c4 => ?_
        · obtain ⟨fa, fb⟩ := hcb.1 c4
          have bd := wi4.bnd _ hv
          refine ldS_of (by rw [cell_own (c0 dq4)]; rfl) (ldS_of (by rw [cell_own (c0 dq4)]; rfl) (ldS_of (by rw [cell_own (c0 dq4)]; rfl) (ldS_of (by rw [cell_own (c0 dq4)]; rfl) (ix_of (by omega) (by first | omega | (simp only; omega)) ?_))))
          simp only [add_mk, Nat.zero_add, Nat.add_zero, Nat.mul_one, Int.toNat_natCast]
          refine ldI_of (gi_cell dq4.bq wi4.lx hv) (ldS_of (by rw [cell_own (c0 dq4)]; rfl) (ix_of (by omega) (by first | omega | (simp only; omega)) ?_))
          simp only [add_mk, Nat.zero_add, Nat.add_zero, Nat.mul_one, Int.toNat_natCast]
          refine ldI_of (gi_cell dq4.br wi4.ly hv) ?_
          rw [w64_eq (x := gi X2 (toV w t (e / 2) (e % 2)) - stX (e % 2)) (by omega) (by omega), w64_eq (x := gi Y2 (toV w t (e / 2) (e % 2)) - stY (e % 2)) (by omega) (by omega)]
          obtain ⟨wi5, hc5⟩ := wi4.mark hv ha fa fb (.back hR) (by omega) (by omega)
          have := set3 dq4 wi4.lf wi4.lx wi4.ly n1 n2 n3 n4 n5 n6 bc ha (k : Int) (gi X2 (toV w t (e / 2) (e % 2)) - stX (e % 2)) (gi Y2 (toV w t (e / 2) (e % 2)) - stY (e % 2)) (fun g => Ke (true, ((e + 1 : Nat) : Int), ()) g) fun g5 dq5 => hKe hen _ _ ⟨rfl, _, _, _, dq5, wi5, ?_, by omega, fun _ => by omega, fun q => by cases q⟩
          · simpa only [add_mk, Nat.zero_add, Nat.add_zero, Nat.mul_one, Int.toNat_natCast] using this
          · rw [gi_set]; split
            · rfl
            · exact fk4
        · refine hKe hen _ _ ⟨rfl, F2, X2, Y2, dq4, wi4, fk4, hle, hlt, fun q e' he' hE => ?_⟩
          by_cases ee' : e' = e
          · subst ee'
            refine ⟨hcl0, fun g => ?_⟩
            rcases Int.lt_or_le (gi F2 (e' / 2)) 0 with g2 | g2
            · rw [hcb.2 ⟨g, g2⟩] at c4; cases c4
            · exact g2
          · exact hcl q e' (by omega) hE
      · simp only [decide_eq_false_iff_not] at c2
        obtain rfl : e = 2 * n := by omega
        obtain ⟨m, rfl⟩ : ∃ m', m = m' + 1 := ⟨m - 1, by omega⟩
        refine hKw m rfl _ _ ⟨F2, X2, Y2, dq4, wi4, fk4, fun q => by have := hlt q; omega, fun q e' hE => hcl q e' (by have := d.hE e' hE; omega) hE⟩
    · simp only at c1
      have hcl := hcl c1
      refine hKr hkn _ _ ⟨rfl, F1, X1, Y1, dq3, wi3.whole Rb (fun _ => by omega) ?_⟩
      rintro u x s' t' ⟨e, hE, rfl, rfl, _⟩
      exact hcl e hE
  · simp only [decide_eq_false_iff_not] at cc
    obtain rfl : k = n := by omega
    have bh' : g.blk h.size = some (.cells [.slice none 0 0, .slice none 0 0, .slice none 0 0]) := by rw [dq.k _ (by omega) (by omega) (by omega), bh, b2]
    refine ldS_of (by rw [cell_own (c0 dq)]; rfl) (ldS_of (by rw [cell_own (c0 dq)]; rfl) (ldS_of (by rw [cell_own (c0 dq)]; rfl) (stc_of bh' (by simp) fun g1 z1 b1 k1 => stc_of b1 (by simp) fun g2 z2' b2' k2' => stc_of b2' (by simp) fun g3 z3 b3 k3 => ?_)))
    simp only [List.set_cons_zero, List.set_cons_succ] at b3
    refine ldS_of (by rw [cell_own b3]; rfl) (ldS_of (by rw [cell_own b3]; rfl) (ldS_of (by rw [cell_own b3]; rfl) ?_))
    have zz := dq.z
    refine hK g3 p q r F X Y ⟨by omega, fun x hx => by rw [k3 _ (by omega), k2' _ (by omega), k1 _ (by omega), dq.k x (by omega) (by omega) (by omega), f0.blk x hx]⟩ ⟨?_, ?_, ?_, ⟨by omega, by omega⟩, ⟨by omega, by omega⟩, ⟨by omega, by omega⟩, n1, n2, n3⟩ wi
    · rw [k3 _ (by omega), k2' _ (by omega), k1 _ (by omega), dq.bp]
    · rw [k3 _ (by omega), k2' _ (by omega), k1 _ (by omega), dq.bq]
    · rw [k3 _ (by omega), k2' _ (by omega), k1 _ (by omega), dq.br]

end Go.Hx
