/- Building graphs, over the abstract heap: the rows. No condition. -/
import Derived.Test.YthohhnnjpaepnaaHxGrA
namespace Go.Hx
set_option linter.unusedSimpArgs false
set_option linter.unusedVariables false

theorem nats_cell {h : Hp} {p n : Nat} {F : List Nat} (b : h.blk p = some (.cells (ints (nats F)))) (l : F.length = n) {i : Nat} (hi : i < n) : h.cell ⟨p, i, none⟩ = some (.int .i64 ((gt F i : Nat) : Int)) := by
  rw [cell_own b, ints_getD (by rw [nats_len]; omega), nats_getD]

theorem zrow_ints0 (n : Nat) : zrow [.int .i64 0] n = ints (nats (List.replicate n 0)) := by
  induction n with
  | zero => rfl
  | succ n ih => simp only [zrow, List.replicate_succ, List.flatten_cons] at *; rw [ih]; rfl
theorem zrow_ints2 (n : Nat) : zrow [.int .i64 0, .int .i64 0] n = ints (List.replicate (2 * n) 0) := by
  induction n with
  | zero => rfl
  | succ n ih => rw [show 2 * (n + 1) = 2 * n + 1 + 1 by omega]; simp only [zrow, List.replicate_succ, List.flatten_cons] at *; rw [ih]; rfl

theorem getD_set (N : List Int) (i k : Nat) (v : Int) : (N.set i v).getD k 0 = if i = k ∧ k < N.length then v else N.getD k 0 := by
  simp only [List.getD, List.getElem?_set]
  by_cases h : i = k
  · subst h
    by_cases h2 : i < N.length
    · simp [h2]
    · simp [h2]
  · simp [h]

theorem set2_get {N : List Int} {p k : Nat} {e t : Int} (hk : k * 2 + 1 < N.length) : ((N.set (p * 2) e).set (p * 2 + 1) t).getD (k * 2) 0 = (if p = k then e else N.getD (k * 2) 0) ∧ ((N.set (p * 2) e).set (p * 2 + 1) t).getD (k * 2 + 1) 0 = if p = k then t else N.getD (k * 2 + 1) 0 := by
  rw [getD_set, getD_set, getD_set, getD_set, List.length_set]
  by_cases h : p = k
  · subst h
    rw [if_neg (by omega), if_pos (by omega), if_pos rfl, if_pos (by omega), if_pos rfl]; exact ⟨rfl, rfl⟩
  · rw [if_neg (by omega), if_neg (by omega), if_neg h, if_neg (by omega), if_neg (by omega), if_neg h]; exact ⟨rfl, rfl⟩

/-- Every half-edge is put at its place. -/
theorem put_one {h : Hp} {c d a f2 x n m : Nat} {G : List Nat} {N : List Int} {v e to : Nat} (hv : v < n) (hp : gt G v < 2 * m) (bc : h.blk c = some (.cells [.pointer (some ⟨a, 0, none⟩)])) (bd : ∃ sc, h.blk d = some (.cells [.slice (some ⟨f2, 0, none⟩) (n + 1) sc]))
    (ba : h.cell ⟨a, 4, none⟩ = some (.slice (some ⟨x, 0, none⟩) (2 * m) (2 * m))) (bf : ∃ sp, h.blk f2 = some (.cells (ints (nats G) ++ sp))) (lG : G.length = n + 1) (bx : h.blk x = some (.cells (ints N))) (lN : N.length = 2 * (2 * m)) (n1 : d ≠ x) (n2 : d ≠ f2) (n3 : f2 ≠ x)
    (ic : c < h.size) (id' : d < h.size) (iaa : a < h.size) (if2 : f2 < h.size) (ix1 : x < h.size) (hm : 2 * m < 2 ^ 40) (K : Hp → Prop)
    (hK : ∀ h', h.size ≤ h'.size → (∀ y, y < h.size → y ≠ x → y ≠ f2 → h'.blk y = h.blk y) → h'.blk x = some (.cells (ints ((N.set (gt G v * 2) (e : Int)).set (gt G v * 2 + 1) (to : Int)))) → (∃ sp, h'.blk f2 = some (.cells (ints (nats (G.set v (gt G v + 1))) ++ sp))) → K h') :
    g_graph_build_f1 (v : Int) (e : Int) (to : Int) ⟨c, 0, none⟩ ⟨d, 0, none⟩ h K := by
  obtain ⟨sc, bd⟩ := bd
  obtain ⟨sp, bf⟩ := bf
  unfold g_graph_build_f1
  refine alo_of fun h2 z2 b2 k2 => ?_
  refine ldP_of (by rw [cell_own ((k2 c ic).trans bc)]; rfl) (nn_of ?_)
  simp only [add_mk, Nat.zero_add]
  refine ldS_of (by rw [cell_blk (h := h) (k2 a iaa)]; exact ba) (ldS_of (by rw [cell_own ((k2 d id').trans bd)]; rfl) (ix_of (by omega) (by first | omega | (simp only; omega)) ?_))
  simp only [add_mk, Nat.zero_add, Nat.add_zero, Nat.mul_one, Int.toNat_natCast]
  have cf : ∀ (g : Hp), g.blk f2 = h.blk f2 → g.cell ⟨f2, v, none⟩ = some (.int .i64 ((gt G v : Nat) : Int)) := fun g hg => by
    rw [cell_own (hg.trans bf), List.getElem?_append_left (by rw [ints_len, nats_len]; omega), ints_getD (by rw [nats_len]; omega), nats_getD]
  refine ldI_of (cf h2 (k2 f2 if2)) (ldI_of (by rw [cell_own b2]; rfl) (ldI_of (by rw [cell_own b2]; rfl) (ix_of (by omega) (by first | omega | (simp only; omega)) ?_)))
  simp only [add_mk, Nat.zero_add, Nat.add_zero, Nat.mul_one, Int.toNat_natCast]
  refine stc_of ((k2 x ix1).trans bx) (by rw [ints_len]; omega) fun h3 z3 b3 k3 => stc_of b3 (by rw [List.length_set, ints_len]; omega) fun h4 z4 b4 k4 => ?_
  have kk : ∀ y, y < h.size → y ≠ x → h4.blk y = h.blk y := fun y hy hx => by rw [k4 _ hx, k3 _ hx, k2 _ hy]
  refine ldS_of (by rw [cell_own ((kk d id' n1).trans bd)]; rfl) (ix_of (by omega) (by first | omega | (simp only; omega)) ?_)
  simp only [add_mk, Nat.zero_add, Nat.add_zero, Nat.mul_one, Int.toNat_natCast]
  refine ldI_of (cf h4 (kk f2 if2 n3)) (ix_of (by omega) (by first | omega | (simp only; omega)) ?_)
  simp only [add_mk, Nat.zero_add, Nat.add_zero, Nat.mul_one, Int.toNat_natCast]
  refine stc_of ((kk f2 if2 n3).trans bf) (by rw [List.length_append, ints_len, nats_len]; omega) fun h5 z5 b5 k5 => hK h5 (by omega) (fun y hy hx hf => by rw [k5 _ hf, kk y hy hx]) ?_ ⟨sp, ?_⟩
  · rw [k5 _ (Ne.symm n3), b4, ints_set, ints_set]
  · rw [b5, List.set_append, if_pos (by rw [ints_len, nats_len]; omega), w64, w64s (by omega), ints_set, nats_set]

set_option maxHeartbeats 2000000 in
theorem build_spec (n m : Nat) (s : Sl) (M : List Int) (B : Nat) (h : Hp) (ls : Lst h 3 s (ints M) B) (hB : B ≤ h.size) (hs : s.n = m) (ok : GOk (n : Int) m M) (K : Option Addr → Hp → Prop)
    (hK : ∀ h' o, GS h' o n m M → o.lo = B → Fr h.size h h' → K (some ⟨o.a, 0, none⟩) h') : g_graph_build (n : Int) s h K := by
  obtain ⟨-, gn, gm, gok⟩ := id ok
  have hok : ∀ i, i < m → eU M i < n ∧ eV M i < n ∧ eU M i ≠ eV M i ∧ M.getD (i * 3 + 0) 0 = (eU M i : Nat) ∧ M.getD (i * 3 + 1) 0 = (eV M i : Nat) := fun i hi => (gok i hi).lt
  have gn' : n ≤ 4096 := by omega
  unfold g_graph_build
  have x1 : IntKind.i64.wrap ((n : Int) + 1) = ((n + 1 : Nat) : Int) := w64s (by omega)
  have x2 : IntKind.i64.wrap (2 * (m : Int)) = ((2 * m : Nat) : Int) := by rw [w64_eq (by omega) (by omega)]; omega
  simp only [w64, hs, Int.ofNat_eq_natCast, x1, x2]
  refine jn_of (fun st g => ∃ c a f x : Nat, st.1 = ⟨c, 0, none⟩ ∧ Fr h.size h g ∧ g.blk c = some (.cells [.pointer (some ⟨a, 0, none⟩)]) ∧ g.blk a = some (.cells [.bool true, .int .i64 (n : Nat), .slice s.a m s.c, .slice (some ⟨f, 0, none⟩) (n + 1) (n + 1), .slice (some ⟨x, 0, none⟩) (2 * m) (2 * m)]) ∧
    g.blk f = some (.cells (zrow [.int .i64 0] (n + 1))) ∧ g.blk x = some (.cells (zrow [.int .i64 0, .int .i64 0] (2 * m))) ∧ (h.size ≤ c ∧ c < g.size) ∧ (h.size ≤ a ∧ a < g.size) ∧ (h.size ≤ f ∧ f < g.size) ∧ (h.size ≤ x ∧ x < g.size) ∧ c ≠ a ∧ c ≠ f ∧ c ≠ x ∧ a ≠ f ∧ a ≠ x ∧ f ≠ x) ?_ fun K3 hK3 => ?_
  case refine_2 =>
    have leaf : ∀ (g : Hp) (c a f x : Nat), (h.size ≤ g.size ∧ ∀ y, y < h.size → g.blk y = h.blk y) → g.blk c = some (.cells [.pointer none]) → g.blk a = some (.cells [.bool true, .int .i64 (n : Nat), .slice s.a m s.c, .slice (some ⟨f, 0, none⟩) (n + 1) (n + 1), .slice (some ⟨x, 0, none⟩) (2 * m) (2 * m)]) →
        g.blk f = some (.cells (zrow [.int .i64 0] (n + 1))) → g.blk x = some (.cells (zrow [.int .i64 0, .int .i64 0] (2 * m))) → ((h.size ≤ c ∧ c < g.size) ∧ (h.size ≤ a ∧ a < g.size) ∧ (h.size ≤ f ∧ f < g.size) ∧ (h.size ≤ x ∧ x < g.size) ∧ c ≠ a ∧ c ≠ f ∧ c ≠ x ∧ a ≠ f ∧ a ≠ x ∧ f ≠ x) →
        stc g ⟨c, 0, none⟩ (.pointer (some ⟨a, 0, none⟩)) fun g1 => K3 (⟨c, 0, none⟩, ()) g1 := by
      intro g c a f x ⟨zg, kg⟩ bc ba bf bx ⟨ic, ia, if', ix1, n1, n2, n3, n4, n5, n6⟩
      refine stc_of bc (by simp) fun g1 z1 b1 k1 => hK3 _ _ ⟨c, a, f, x, rfl, ⟨by omega, fun y hy => by rw [k1 _ (by omega), kg _ hy]⟩, b1, (k1 a (Ne.symm n1)).trans ba, (k1 f (Ne.symm n2)).trans bf, (k1 x (Ne.symm n3)).trans bx, by omega, by omega, by omega, by omega, n1, n2, n3, n4, n5, n6⟩
    have lz : ∀ q : Nat, Int.toNat (q : Int) = q := fun _ => rfl
    refine ⟨?_, ?_, ?_⟩ <;> first
      | (refine mks_of (by omega) (by omega) (by omega) fun ha za ba ka => ⟨?_, ?_⟩)
      | (refine alo_of fun ha za ba ka => ⟨?_, ?_⟩)
    all_goals first
      | (refine mks_of (by omega) (by omega) (by omega) fun hb zb bb kb => mks_of (by omega) (by omega) (by omega) fun hc zc bc kc => alo_of fun hd zd bd kd => ?_)
      | (refine alo_of fun hb zb bb kb => mks_of (by omega) (by omega) (by omega) fun hc zc bc kc => alo_of fun hd zd bd kd => ?_)
      | (refine mks_of (by omega) (by omega) (by omega) fun hb zb bb kb => ⟨?_, ?_⟩)
    all_goals try (refine alo_of fun hc zc bc kc => alo_of fun hd zd bd kd => ?_)
    all_goals
      simp only [add_mk, Nat.zero_add]
      have ba' := (kd h.size (by omega)).trans ((kc _ (by omega)).trans ((kb _ (by omega)).trans ba))
      have bb' := (kd ha.size (by omega)).trans ((kc _ (by omega)).trans bb)
      have bc' := (kd hb.size (by omega)).trans bc
      simp only [lz] at ba' bb' bc' bd ⊢
      refine leaf hd _ _ _ _ ⟨by omega, fun y hy => by rw [kd _ (by omega), kc _ (by omega), kb _ (by omega), ka _ hy]⟩ (by first | exact bd | exact bc' | exact bb' | exact ba') (by first | exact bd | exact bc' | exact bb' | exact ba') (by first | exact bd | exact bc' | exact bb' | exact ba') (by first | exact bd | exact bc' | exact bb' | exact ba') (by omega)
  rintro ⟨_, u⟩ h2 ⟨c, a, f, x, rfl, f2, bc, ba, bf, bx, ic, ia, if', ix1, n1, n2, n3, n4, n5, n6⟩
  have z2 := f2.size
  rw [zrow_ints0] at bf
  rw [zrow_ints2] at bx
  have rs : ∀ {g : Hp}, Fr h.size h g → Rd g 3 s (ints M) := fun fg => ls.rd.fr fg
  have vl : (VX M m).length = 2 * m := VX_len M m
  have za : atp (VX M m) 0 = 0 := by
    refine Nat.eq_zero_of_not_pos fun q => ?_
    have e : ∀ k, cntB k (fun j => decide (gt (VX M m) j < 0)) = 0 := fun k => by
      induction k with
      | zero => rfl
      | succ k ih => rw [cntB_succ, ih]; simp
    unfold atp at q; rw [e] at q; omega
  have szv : ∀ w, szp (VX M m) w = cntB (2 * m) fun j => gt (VX M m) j == w := fun w => by unfold szp; rw [vl]
  -- how many half-edges the vertices have
  refine jn_of (fun _ g => ∃ F : List Nat, F.length = n + 1 ∧ g.blk f = some (.cells (ints (nats F))) ∧ gt F 0 = 0 ∧ (∀ v, v < n → gt F (v + 1) = szp (VX M m) v) ∧ h2.size ≤ g.size ∧ ∀ y, y < h2.size → y ≠ f → g.blk y = h2.blk y) ?_ fun K6 hK6 => ?_
  case refine_2 =>
    refine for_of m (fun i (st : Int × Unit) g => st.1 = (i : Int) ∧ ∃ F : List Nat, F.length = n + 1 ∧ g.blk f = some (.cells (ints (nats F))) ∧ gt F 0 = 0 ∧ (∀ v, v < n → gt F (v + 1) = cntB (2 * i) fun j => gt (VX M m) j == v) ∧ h2.size ≤ g.size ∧ ∀ y, y < h2.size → y ≠ f → g.blk y = h2.blk y) ?_
      ⟨rfl, List.replicate (n + 1) 0, by simp, bf, rep_gt (by omega), fun v hv => by rw [rep_gt (by omega)]; rfl, Nat.le_refl _, fun _ _ _ => rfl⟩
    rintro i Kr ⟨st, u⟩ g hi ⟨rfl, F, lF, gf, F0, hF, zg, kg⟩ hKr
    refine cnd_of (fun cc => ?_) fun cc => ?_
    · simp only [decide_eq_true_eq] at cc
      have him : i < m := by omega
      obtain ⟨hu, hv, hne, e1, e2⟩ := hok i him
      have fg : Fr h.size h g := ⟨by omega, fun y hy => by rw [kg y (by omega) (by omega), f2.blk y hy]⟩
      refine hs ▸ rd3 (rs fg) (by omega) (tmp3 fun h3 z3 b3 k3 => ?_)
      rw [e1, e2] at b3
      have y1 : IntKind.i64.wrap (((eU M i : Nat) : Int) + 1) = ((eU M i + 1 : Nat) : Int) := w64s (by omega)
      have y2 : IntKind.i64.wrap (((eV M i : Nat) : Int) + 1) = ((eV M i + 1 : Nat) : Int) := w64s (by omega)
      have hp : ∀ (g' : Hp) (Kp : Option Addr → Prop), g'.blk c = g.blk c → Kp (some ⟨a, 0, none⟩) → ldP g' ⟨c, 0, none⟩ Kp := fun g' Kp hg hk => ldP_of (by rw [cell_own (hg.trans ((kg c (by omega) n2).trans bc))]; rfl) hk
      have hsf : ∀ (g' : Hp) (Kp : Sl → Prop), g'.blk a = g.blk a → Kp ⟨some ⟨f, 0, none⟩, n + 1, n + 1⟩ → ldS g' ⟨a, 3, none⟩ Kp := fun g' Kp hg hk => ldS_of (by rw [cell_own (hg.trans ((kg a (by omega) n4).trans ba))]; rfl) hk
      refine hp h3 _ (k3 _ (by omega)) (nn_of ?_)
      simp only [add_mk, Nat.zero_add]
      refine hsf h3 _ (k3 _ (by omega)) (ldI_of (by rw [cell_own b3]; rfl) ?_)
      simp only [y1]
      refine ix_of (by omega) (by first | omega | (simp only; omega)) ?_
      simp only [add_mk, Nat.zero_add, Nat.add_zero, Nat.mul_one, Int.toNat_natCast]
      refine ldI_of (nats_cell ((k3 f (by omega)).trans gf) lF (by omega)) (ix_of (by omega) (by first | omega | (simp only; omega)) ?_)
      simp only [add_mk, Nat.zero_add, Nat.add_zero, Nat.mul_one, Int.toNat_natCast]
      refine stc_of ((k3 f (by omega)).trans gf) (by rw [ints_len, nats_len]; omega) fun h4 z4 b4 k4 => ?_
      have lc := cntB_le (2 * i) fun j => gt (VX M m) j == eU M i
      have lc2 := cntB_le (2 * i) fun j => gt (VX M m) j == eV M i
      have q1 := hF _ hu
      have q2 := hF _ hv
      rw [w64s (by omega), ints_set, nats_set] at b4
      have hk4 : ∀ y, y < g.size → y ≠ f → h4.blk y = g.blk y := fun y hy hf => by rw [k4 _ hf, k3 _ hy]
      refine hp h4 _ (hk4 _ (by omega) n2) (nn_of ?_)
      simp only [add_mk, Nat.zero_add]
      refine hsf h4 _ (hk4 _ (by omega) n4) (ldI_of (by rw [cell_own ((k4 _ (by omega)).trans b3)]; rfl) ?_)
      simp only [y2]
      refine ix_of (by omega) (by first | omega | (simp only; omega)) ?_
      simp only [add_mk, Nat.zero_add, Nat.add_zero, Nat.mul_one, Int.toNat_natCast]
      refine ldI_of (nats_cell (n := n + 1) b4 (by simp [lF]) (by omega)) (ix_of (by omega) (by first | omega | (simp only; omega)) ?_)
      simp only [add_mk, Nat.zero_add, Nat.add_zero, Nat.mul_one, Int.toNat_natCast]
      have q3 : gt (F.set (eU M i + 1) (gt F (eU M i + 1) + 1)) (eV M i + 1) = gt F (eV M i + 1) := by rw [gt_set, if_neg (by omega)]
      refine stc_of b4 (by rw [ints_len, nats_len, List.length_set]; omega) fun h5 z5 b5 k5 => hKr him _ _ ⟨?_, (F.set (eU M i + 1) (gt F (eU M i + 1) + 1)).set (eV M i + 1) (gt F (eV M i + 1) + 1), by simp [lF], ?_, ?_, fun w hw => ?_, by omega, fun y hy hf => by rw [k5 _ hf, k4 _ hf, k3 _ (by omega), kg y hy hf]⟩
      · simp only; rw [w64s (by omega)]
      · rw [b5, q3, w64s (by omega), ints_set, nats_set]
      · rw [gt_set, if_neg (by omega), gt_set, if_neg (by omega), F0]
      · rw [cnt2, VX_u him, VX_v him, gt_set, gt_set, List.length_set, lF, ← hF w hw]
        by_cases g1 : eU M i = w
        · subst g1
          rw [if_neg (by omega), if_pos (by omega), if_pos (by simp), if_neg (by simpa using fun e => hne e.symm)]
          try omega
        · by_cases g2 : eV M i = w
          · subst g2
            rw [if_pos (by omega), if_neg (by simpa using g1), if_pos (by simp)]
            try omega
          · rw [if_neg (by omega), if_neg (by omega), if_neg (by simpa using g1), if_neg (by simpa using g2)]; rfl
    · simp only [decide_eq_false_iff_not] at cc
      obtain rfl : i = m := by omega
      exact hK6 _ _ ⟨F, lF, gf, F0, fun v hv => by rw [hF v hv, szv], zg, kg⟩
  rintro ⟨⟩ h5 ⟨F, lF, gf, F0, hF, z5, k5⟩
  -- where they begin
  refine jn_of (fun _ g => ∃ F : List Nat, F.length = n + 1 ∧ g.blk f = some (.cells (ints (nats F))) ∧ (∀ v, v ≤ n → gt F v = atp (VX M m) v) ∧ h2.size ≤ g.size ∧ ∀ y, y < h2.size → y ≠ f → g.blk y = h2.blk y) ?_ fun K9 hK9 => ?_
  case refine_2 =>
    refine for_of n (fun v (st : Int × Unit) g => st.1 = (v : Int) ∧ ∃ F : List Nat, F.length = n + 1 ∧ g.blk f = some (.cells (ints (nats F))) ∧ (∀ w, w ≤ v → gt F w = atp (VX M m) w) ∧ (∀ w, v ≤ w → w < n → gt F (w + 1) = szp (VX M m) w) ∧ h2.size ≤ g.size ∧ ∀ y, y < h2.size → y ≠ f → g.blk y = h2.blk y) ?_
      ⟨rfl, F, lF, gf, fun w hw => by obtain rfl : w = 0 := by omega
                                      rw [F0, za], fun w _ hw => hF w hw, z5, k5⟩
    rintro v Kr ⟨st, u⟩ g hv ⟨rfl, F, lF, gf, hF1, hF2, zg, kg⟩ hKr
    refine cnd_of (fun cc => ?_) fun cc => ?_
    · simp only [decide_eq_true_eq] at cc
      have hvn : v < n := by omega
      have hp : ∀ (Kp : Option Addr → Prop), Kp (some ⟨a, 0, none⟩) → ldP g ⟨c, 0, none⟩ Kp := fun Kp hk => ldP_of (by rw [cell_own ((kg c (by omega) n2).trans bc)]; rfl) hk
      have hsf : ∀ (Kp : Sl → Prop), Kp ⟨some ⟨f, 0, none⟩, n + 1, n + 1⟩ → ldS g ⟨a, 3, none⟩ Kp := fun Kp hk => ldS_of (by rw [cell_own ((kg a (by omega) n4).trans ba)]; rfl) hk
      have y1 : IntKind.i64.wrap ((v : Int) + 1) = ((v + 1 : Nat) : Int) := w64s (by omega)
      simp only [y1]
      refine hp _ (nn_of ?_)
      simp only [add_mk, Nat.zero_add]
      refine hsf _ (ix_of (by omega) (by first | omega | (simp only; omega)) ?_)
      simp only [add_mk, Nat.zero_add, Nat.add_zero, Nat.mul_one, Int.toNat_natCast]
      refine ldI_of (nats_cell gf lF (by omega)) (hp _ (nn_of ?_))
      simp only [add_mk, Nat.zero_add]
      refine hsf _ (ix_of (by omega) (by first | omega | (simp only; omega)) ?_)
      simp only [add_mk, Nat.zero_add, Nat.add_zero, Nat.mul_one, Int.toNat_natCast]
      refine ldI_of (nats_cell gf lF (by omega)) (ix_of (by omega) (by first | omega | (simp only; omega)) ?_)
      simp only [add_mk, Nat.zero_add, Nat.add_zero, Nat.mul_one, Int.toNat_natCast]
      have q1 := hF1 v (Nat.le_refl _)
      have q2 := hF2 v (Nat.le_refl _) hvn
      have q3 := atp_succ (VX M m) v
      have q4 := atp_le (VX M m) (v + 1)
      refine stc_of gf (by rw [ints_len, nats_len]; omega) fun h4 z4 b4 k4 => hKr hvn _ _ ⟨rfl, F.set (v + 1) (gt F (v + 1) + gt F v), by simp [lF], ?_, fun w hw => ?_, fun w hw hw2 => ?_, by omega, fun y hy hf => by rw [k4 _ hf, kg y hy hf]⟩
      · rw [b4, ← Int.natCast_add, w64k (by omega), ints_set, nats_set]
      · rw [gt_set]
        by_cases e : w = v + 1
        · subst e; rw [if_pos ⟨rfl, by omega⟩, q3]; omega
        · rw [if_neg (by omega)]; exact hF1 w (by omega)
      · rw [gt_set, if_neg (by omega)]; exact hF2 w (by omega) hw2
    · simp only [decide_eq_false_iff_not] at cc
      obtain rfl : v = n := by omega
      exact hK9 _ _ ⟨F, lF, gf, hF1, zg, kg⟩
  rintro ⟨⟩ h8 ⟨F, lF, gf, hF, z8, k8⟩
  have c8 := (k8 c (by omega) n2).trans bc
  have a8 := (k8 a (by omega) n4).trans ba
  refine ldP_of (by rw [cell_own c8]; rfl) (nn_of ?_)
  simp only [add_mk, Nat.zero_add]
  refine ldS_of (by rw [cell_own a8]; rfl) ?_
  have r8 : Rd h8 1 ⟨some ⟨f, 0, none⟩, n + 1, n + 1⟩ (ints (nats F)) := ⟨by rw [seg_row (row_own gf) (by rw [ints_len, nats_len, lF]; simp only; omega)]; simp only [List.drop_zero, Nat.mul_one]; rw [List.take_of_length_le (by rw [ints_len, nats_len]; omega)], fun y hy _ => by cases hy; exact (by simp only; omega)⟩
  refine Clone_rd r8 (by simp only; omega) _ fun s13 h14 l14 f14 => ?_
  have z14 := f14.size
  have n13 : s13.n = n + 1 := by have := l14.1; rw [ints_len, nats_len] at this; omega
  obtain ⟨_, _, ⟨hnil, _⟩ | ⟨fb, sp, ha13, ifb, ifb2, bfb, _⟩⟩ := id l14
  · rw [hnil] at n13; simp at n13
  have e13 : s13.a = some ⟨fb, 0, none⟩ := ha13
  refine alo_of fun h16 z16 b16 k16 => ?_
  simp only [add_mk, Nat.zero_add]
  refine stc_of b16 (by simp) fun h17 z17 b17 k17 => ?_
  simp only [List.set_cons_zero, e13, n13] at b17
  have k14 : ∀ y, y < h14.size → h17.blk y = h14.blk y := fun y hy => by rw [k17 _ (by omega), k16 _ hy]
  have kh : ∀ y, y < h2.size → y ≠ f → h17.blk y = h2.blk y := fun y hy hf => by rw [k14 y (by omega), f14.blk y (by omega), k8 y hy hf]
  refine for_of m (fun i (st : Int × Unit) g => st.1 = (i : Int) ∧ ∃ (G : List Nat) (N : List Int), G.length = n + 1 ∧ (∀ w, w < n → gt G w = atp (VX M m) w + cntB (2 * i) fun j => gt (VX M m) j == w) ∧ N.length = 2 * (2 * m) ∧ (∀ j, j < 2 * i → N.getD (pos (VX M m) j * 2) 0 = ((j / 2 : Nat) : Int) ∧ N.getD (pos (VX M m) j * 2 + 1) 0 = ((VO M j : Nat) : Int)) ∧
    g.blk x = some (.cells (ints N)) ∧ (∃ sp, g.blk fb = some (.cells (ints (nats G) ++ sp))) ∧ h17.size ≤ g.size ∧ ∀ y, y < h17.size → y ≠ x → y ≠ fb → g.blk y = h17.blk y) ?_
    ⟨rfl, F, List.replicate (2 * (2 * m)) 0, lF, fun w hw => by rw [hF w (by omega)]; simp [cntB], by simp, fun j hj => by omega, (kh x (by omega) (Ne.symm n6)).trans bx, ⟨sp, (k14 fb ifb2).trans bfb⟩, Nat.le_refl _, fun _ _ _ _ => rfl⟩
  rintro i Kr ⟨st, u⟩ g hi ⟨rfl, G, N, lG, hG, lN, hN, gx, gfb, zg, kg⟩ hKr
  have fg : Fr h.size h g := ⟨by omega, fun y hy => by rw [kg y (by omega) (by omega) (by omega), kh y (by omega) (by omega), f2.blk y hy]⟩
  have gc : g.blk c = some (.cells [.pointer (some ⟨a, 0, none⟩)]) := (kg c (by omega) n3 (by omega)).trans ((kh c (by omega) n2).trans bc)
  refine cnd_of (fun cc => ?_) fun cc => ?_
  · simp only [decide_eq_true_eq] at cc
    have him : i < m := by omega
    obtain ⟨hu, hv, hne, e1, e2⟩ := hok i him
    refine hs ▸ rd3 (rs fg) (by omega) (tmp3 fun h3 z3 b3 k3 => ?_)
    rw [e1, e2] at b3
    simp only [add_mk, Nat.zero_add]
    have kk : ∀ y, y < g.size → h3.blk y = g.blk y := k3
    have ka : h3.cell ⟨a, 4, none⟩ = some (.slice (some ⟨x, 0, none⟩) (2 * m) (2 * m)) := by
      rw [cell_own ((kk a (by omega)).trans ((kg a (by omega) n5 (by omega)).trans ((kh a (by omega) n4).trans ba)))]; rfl
    have kd : h3.blk h14.size = some (.cells [.slice (some ⟨fb, 0, none⟩) (n + 1) s13.c]) := (kk _ (by omega)).trans ((kg _ (by omega) (by omega) (by omega)).trans b17)
    have p1 : gt G (eU M i) = pos (VX M m) (2 * i) := by
      rw [hG _ hu]; unfold pos; rw [VX_u him]
    have t1 : pos (VX M m) (2 * i) < 2 * m := by
      have := pos_lt (VX M m) (k := 2 * i) (by rw [vl]; omega)
      have := atp_le (VX M m) (gt (VX M m) (2 * i) + 1)
      omega
    have t2 : pos (VX M m) (2 * i + 1) < 2 * m := by
      have := pos_lt (VX M m) (k := 2 * i + 1) (by rw [vl]; omega)
      have := atp_le (VX M m) (gt (VX M m) (2 * i + 1) + 1)
      omega
    refine ldI_of (by rw [cell_own b3]; rfl) (ldI_of (by rw [cell_own b3]; rfl) ?_)
    refine put_one (n := n) (m := m) hu (by rw [p1]; exact t1) ((kk c (by omega)).trans gc) ⟨_, kd⟩ ka (by obtain ⟨sp, q⟩ := gfb; exact ⟨sp, (kk fb (by omega)).trans q⟩) lG ((kk x (by omega)).trans gx) lN (by omega) (by omega) (by omega) (by omega) (by omega) (by omega) (by omega) (by omega) (by omega) _ fun h32 z32 k32 bx32 bf32 => ?_
    have kk2 : ∀ y, y < h3.size → y ≠ x → y ≠ fb → h32.blk y = h3.blk y := k32
    have b32 := (kk2 g.size (by omega) (by omega) (by omega)).trans b3
    refine ldI_of (by rw [cell_own b32]; rfl) (ldI_of (by rw [cell_own b32]; rfl) ?_)
    have p2' : gt (G.set (eU M i) (gt G (eU M i) + 1)) (eV M i) = pos (VX M m) (2 * i + 1) := by
      rw [gt_set, if_neg (by omega), hG _ hv]; unfold pos; rw [VX_v him, cntB_succ, VX_u him, if_neg (by simpa using hne)]; omega
    refine put_one (n := n) (m := m) hv (by rw [p2']; exact t2) ((kk2 c (by omega) n3 (by omega)).trans ((kk c (by omega)).trans gc)) ⟨_, (kk2 _ (by omega) (by omega) (by omega)).trans kd⟩ (by rw [cell_blk (h := h3) (kk2 a (by omega) n5 (by omega))]; exact ka) bf32 (by simp [lG]) bx32 (by simp [lN]) (by omega) (by omega) (by omega) (by omega) (by omega) (by omega) (by omega) (by omega) (by omega) _ fun h35 z35 k35 bx35 bf35 => ?_
    rw [p2', p1] at bx35
    refine hKr him _ _ ⟨?_, _, _, by simp [lG], fun w hw => ?_, by simp [lN], fun j hj => ?_, bx35, bf35, by omega, fun y hy h1 h2 => by rw [k35 y (by omega) h1 h2, kk2 y (by omega) h1 h2, kk y (by omega), kg y hy h1 h2]⟩
    · simp only; rw [w64s (by omega)]
    · rw [cnt2, VX_u him, VX_v him, gt_set, gt_set, gt_set, List.length_set, lG]
      have := hG w hw
      by_cases g1 : eU M i = w
      · subst g1
        rw [if_neg (by omega), if_pos (by omega), if_pos (by simp), if_neg (by simpa using fun e => hne e.symm)]; omega
      · by_cases g2 : eV M i = w
        · subst g2
          rw [if_pos (by omega), if_neg (by omega), if_neg (by simpa using g1), if_pos (by simp)]; omega
        · rw [if_neg (by omega), if_neg (by omega), if_neg (by simpa using g1), if_neg (by simpa using g2)]; omega
    · have pj : pos (VX M m) j < 2 * m := by
        have := pos_lt (VX M m) (k := j) (by rw [vl]; omega)
        have := atp_le (VX M m) (gt (VX M m) j + 1)
        omega
      obtain ⟨s1, s2⟩ := set2_get (N := (N.set (pos (VX M m) (2 * i) * 2) ((i : Nat) : Int)).set (pos (VX M m) (2 * i) * 2 + 1) ((eV M i : Nat) : Int)) (p := pos (VX M m) (2 * i + 1)) (k := pos (VX M m) j) (e := ((i : Nat) : Int)) (t := ((eU M i : Nat) : Int)) (by simp [lN]; omega)
      obtain ⟨s3, s4⟩ := set2_get (N := N) (p := pos (VX M m) (2 * i)) (k := pos (VX M m) j) (e := ((i : Nat) : Int)) (t := ((eV M i : Nat) : Int)) (by rw [lN]; omega)
      rw [s1, s2, s3, s4]
      by_cases g1 : j = 2 * i + 1
      · subst g1
        rw [if_pos rfl, if_pos rfl, show (2 * i + 1) / 2 = i by omega]
        refine ⟨rfl, ?_⟩
        unfold VO; rw [if_neg (by omega), show (2 * i + 1) / 2 = i by omega]
      · have d1 : pos (VX M m) (2 * i + 1) ≠ pos (VX M m) j := fun e => pos_inj (VX M m) (show j < 2 * i + 1 by omega) (by rw [vl]; omega) e.symm
        rw [if_neg d1, if_neg d1]
        by_cases g2 : j = 2 * i
        · subst g2
          rw [if_pos rfl, if_pos rfl, show 2 * i / 2 = i by omega]
          refine ⟨rfl, ?_⟩
          unfold VO; rw [if_pos (by omega), show 2 * i / 2 = i by omega]
        · have d2 : pos (VX M m) (2 * i) ≠ pos (VX M m) j := fun e => pos_inj (VX M m) (show j < 2 * i by omega) (by rw [vl]; omega) e.symm
          rw [if_neg d2, if_neg d2]
          exact hN j (by omega)
  · simp only [decide_eq_false_iff_not] at cc
    obtain rfl : i = m := by omega
    have fin := hK g ⟨a, s, f, x, B, h2.size⟩ ⟨(kg a (by omega) n5 (by omega)).trans ((kh a (by omega) n4).trans (by rw [ba, hs])), ls.keep fg.size fun y hy => fg.blk _ (ls.blk_lt hy).2.1, hs, ok, ⟨F, lF, (kg f (by omega) n6 (by omega)).trans ((k14 f (by omega)).trans ((f14.blk f (by omega)).trans gf)), hF⟩, ⟨N, lN, gx, hN⟩, ⟨by simp only; omega, by simp only; omega⟩, ⟨by simp only; omega, by simp only; omega⟩, ⟨by simp only; omega, by simp only; omega⟩, fun y hy => by have := (ls.blk_lt hy).2.1; simp only; omega, by simp only; omega⟩ rfl fg
    exact ldP_of (by rw [cell_own gc]; rfl) fin

/-- New. -/
theorem gNew_spec (n : Int) (s : Sl) (M : List Int) (h : Hp) (hr : Rd h 3 s (ints M)) (K : Option Addr → Int → Hp → Prop) (hbad : ∀ e h', Fr h.size h h' → GErr n s.n M e → K none e h')
    (hok : ∀ (N : Nat) h' o, n = N → GOk n s.n M → GS h' o N s.n M → h.size ≤ o.lo → Fr h.size h h' → K (some ⟨o.a, 0, none⟩) 0 h') : g_graph_New n s h K := by
  refine gNew_check n s M h hr K hbad fun h1 f1 ok => ?_
  have hm := ok.2.2.1
  refine CloneE_spec (hr.fr f1) (by omega) _ fun s' h2 hs l2 f2 => ?_
  obtain ⟨N, rfl⟩ : ∃ N : Nat, n = N := ⟨n.toNat, by have := ok.1; omega⟩
  refine build_spec N s.n s' M h1.size h2 l2 f2.size hs ok _ fun h3 o d lo f3 => hok N h3 o rfl ok d (by have := f1.size; omega) ?_
  have z1 := f1.size; have z2 := f2.size; have z3 := f3.size
  exact ⟨by omega, fun c hc => by rw [f3.blk _ (by omega), f2.blk _ (by omega), f1.blk _ hc]⟩

end Go.Hx
