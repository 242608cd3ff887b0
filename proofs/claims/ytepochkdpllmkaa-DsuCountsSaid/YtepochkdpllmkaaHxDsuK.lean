/- The counts: the law, over the abstract heap. No condition. -/
import Derived.Test.YtepochkdpllmkaaHxDsuJ
namespace Go.Hx

theorem count_merge {L : List Nat} (d : LInv L) {a b : Nat} (ha : a < L.length) (hb : b < L.length) (hL : gt L a ≠ gt L b) : countV L = countV (mergeL L (gt L a) (gt L b)) + 1 := by
  have la := d.le a ha
  have lb := d.le b hb
  have ia := d.idem a ha
  have ib := d.idem b hb
  have hmax : max (gt L a) (gt L b) < L.length := by omega
  have emax : gt L (max (gt L a) (gt L b)) = max (gt L a) (gt L b) := by
    rcases Nat.le_total (gt L a) (gt L b) with h | h
    · rw [Nat.max_eq_right h, ib]
    · rw [Nat.max_eq_left h, ia]
  unfold countV
  rw [mergeL_len]
  refine cntB_del hmax (by simp only [beq_iff_eq]; exact emax) ?_ fun i hi hik => ?_
  · simp only [beq_eq_false_iff_ne]
    rw [mergeL_gt _ _ _ hmax, if_pos emax]; omega
  · rw [mergeL_gt _ _ _ hi]
    split
    · rename_i h
      rw [h]
      have e1 : (max (gt L a) (gt L b) == i) = false := by simp only [beq_eq_false_iff_ne]; exact fun k => hik k.symm
      rw [e1]
      symm
      simp only [beq_eq_false_iff_ne]
      intro k
      rw [← k] at h
      rcases Nat.le_total (gt L a) (gt L b) with g | g
      · rw [Nat.min_eq_left g, Nat.max_eq_right g, ia] at h; exact hL h
      · rw [Nat.min_eq_right g, Nat.max_eq_left g, ib] at h; exact hL h.symm
    · rfl

theorem sum_roots {L : List Nat} (d : LInv L) (m : Nat) : ((rootsL L m).map (szp L)).sum = atp L m := by
  induction m with
  | zero =>
    have : ∀ n, (cntB n fun _ => false) = 0 := fun n => by
      induction n with
      | zero => rfl
      | succ n ih => rw [cntB_succ, ih]; simp
    have e : atp L 0 = 0 := by
      unfold atp
      rw [cntB_congr (q := fun _ => false) fun k _ => by simp]
      exact this _
    rw [e]; rfl
  | succ m ih =>
    rw [rootsL_succ, atp_succ, List.map_append, List.sum_append, ih]
    by_cases e : gt L m = m
    · rw [if_pos e]; simp
    · rw [if_neg e, szp_zero d e]; rfl

theorem atp_all {L : List Nat} (d : LInv L) : atp L L.length = L.length := by
  unfold atp
  rw [cntB_congr (q := fun _ => true) fun k hk => by have := d.le k hk; simp only [decide_eq_true_eq]; omega, cntB_all]

theorem g_law08_DsuCounts_true (n : Int) (l : Sl) (h : Hp) (K : Bool → Hp → Prop) (_ : -9223372036854775808 ≤ n ∧ n ≤ 9223372036854775807) {M : List Int} (hM : Rd h 2 l (ints M)) (_ : l.n ≤ 2 ^ 63 - 1)
    (_ : ∀ x ∈ M, -9223372036854775808 ≤ x ∧ x ≤ 9223372036854775807) (hK : ∀ h', K true h') : g_law08_DsuCounts n l h K := by
  unfold g_law08_DsuCounts
  have wk : ∀ h', g_law08_works h' fun r h2 => K r h2 := fun h' => works08_spec _ _ fun h2 _ => hK h2
  refine small_spec _ _ _ _ (fun n0 n1 l1 => cnd_f rfl ?_) (cnd_t rfl (wk _))
  refine New_spec n _ _ (fun bad => by omega) fun _ _ o h7 d7 f7 lo7 hi7 => cnd_f rfl ?_
  unfold jn
  have c0 : countV (idL n.toNat) = n.toNat := by
    unfold countV
    rw [show (idL n.toNat).length = n.toNat by simp [idL], cntB_congr (q := fun _ => true) fun k hk => by rw [idL_gt hk]; exact beq_self_eq_true k, cntB_all]
  refine for_of l.n (fun i t H => t.2.1 = (i : Int) ∧ t.1 = ((countV (unitedL n.toNat M i) : Nat) : Int) ∧ DS H o (unitedL n.toNat M i) ∧ Fr h.size h H) ?_ ⟨rfl, by show n = ((countV (idL n.toNat) : Nat) : Int); rw [c0]; omega, d7, f7⟩
  rintro i K1 ⟨t1, t2, u⟩ H hi ⟨rfl, rfl, d, f⟩ hK1
  simp only
  have sz := f.size
  have hlen := unitedL_len n.toNat M i
  refine cnd_of (fun g => ?_) fun g => ?_
  · simp only [decide_eq_true_eq, Int.ofNat_eq_natCast] at g
    have fld : ∀ {H' : Hp} {j : Nat} {K : Int → Prop}, Fr h.size h H' → j < 2 → K (M.getD (i * 2 + j) 0) → ix l.a l.n (i : Int) fun a => bnd (j : Int) 2 (ldI .i64 H' ((a.add (Int.toNat (i : Int) * 2)).add (Int.toNat (j : Int) * 1)) K) := by
      intro H' j K fr hj hk
      refine ix_rd (hM.fr fr) (by omega) (by omega) (by omega) fun x hx hc => ⟨by omega, by omega, ?_⟩
      rw [add_add _ _ _ hx]
      refine ldI_of ?_ hk
      have := hc j hj
      rwa [show Int.toNat (j : Int) * 1 = j by simp]
    have hinv := unitedL_inv n.toNat M i
    have e' : unitedL n.toNat M (i + 1) = (unionV (unitedL n.toNat M i) (M.getD (i * 2 + 0) 0) (M.getD (i * 2 + 1) 0)).2.2 := rfl
    obtain ⟨L, hL⟩ : ∃ L, L = unitedL n.toNat M i := ⟨_, rfl⟩
    rw [← hL] at d hlen hinv e' ⊢
    have ei : w64 ((i : Int) + 1) = ((i + 1 : Nat) : Int) := by rw [w64, w64_eq (by omega) (by omega)]; omega
    refine fld (j := 0) f (by omega) (fld (j := 1) f (by omega) (Same_spec d _ _ _ fun h1 d1 f1 _ => ?_))
    have fr1 : Fr h.size h h1 := f.trans (f1.fr (by omega) f.size)
    refine fld (j := 0) fr1 (by omega) (fld (j := 1) fr1 (by omega) (Union_spec d1 _ _ _ fun h2 d2 f2 => ?_))
    have fr2 : Fr h.size h h2 := fr1.trans (f2.fr (by omega) fr1.size)
    obtain ⟨a, ha⟩ : ∃ a, a = M.getD (i * 2 + 0) 0 := ⟨_, rfl⟩
    obtain ⟨b, hb⟩ : ∃ b, b = M.getD (i * 2 + 1) 0 := ⟨_, rfl⟩
    rw [← ha, ← hb] at d2 e' ⊢
    have hc : countV L ≤ n.toNat := by rw [← hlen]; exact cntB_le _ _
    have fin : ∀ (left : Int) (H' : Hp), left = ((countV (unionV L a b).2.2 : Nat) : Int) → DS H' o (unionV L a b).2.2 → Fr h.size h H' → K1 (left, w64 ((i : Int) + 1), ()) H' := fun left H' hl hd hf =>
      hK1 (by omega) _ _ ⟨ei, by rw [e']; exact hl, by rw [e']; exact hd, hf⟩
    by_cases good : 0 ≤ a ∧ a < L.length ∧ 0 ≤ b ∧ b < L.length
    · by_cases eq : gt L a.toNat = gt L b.toNat
      · have eu : unionV L a b = (false, 0, L) := by rw [unionV, if_pos good, if_pos eq]
        have es : sameV L a b = true := by rw [sameV, decide_eq_true_eq]; exact ⟨good.1, good.2.1, good.2.2.1, good.2.2.2, eq⟩
        rw [eu] at d2 fin ⊢
        rw [es]
        refine cnd_t rfl (cnd_f rfl (cnd_f rfl (cnd_f rfl (cnd_t rfl ?_))))
        refine fld (j := 0) fr2 (by omega) (fld (j := 1) fr2 (by omega) ?_)
        rw [← ha, ← hb]
        refine Same_spec d2 _ _ _ fun h3 d3 f3 _ => cnd_f (by rw [es]; rfl) (Count_spec d3 _ (cnd_f (by simp) (fin _ _ rfl d3 (fr2.trans (f3.fr (by omega) fr2.size)))))
      · have eu : unionV L a b = (true, 0, mergeL L (gt L a.toNat) (gt L b.toNat)) := by rw [unionV, if_pos good, if_neg eq]
        have es : sameV L a b = false := by rw [sameV, decide_eq_false_iff_not]; exact fun k => eq k.2.2.2.2
        have cm := count_merge hinv (a := a.toNat) (b := b.toNat) (by omega) (by omega) eq
        have es' : sameV (mergeL L (gt L a.toNat) (gt L b.toNat)) a b = true := by
          rw [sameV, decide_eq_true_eq, mergeL_len]
          exact ⟨good.1, good.2.1, good.2.2.1, good.2.2.2, (merge_eq_iff (by omega) (by omega)).2 (.inr (.inl ⟨rfl, rfl⟩))⟩
        rw [eu] at d2 fin ⊢
        rw [es]
        have el : w64 (((countV L : Nat) : Int) - 1) = ((countV (mergeL L (gt L a.toNat) (gt L b.toNat)) : Nat) : Int) := by rw [w64, w64_eq (by omega) (by omega)]; omega
        rw [el]
        refine cnd_t rfl (cnd_f rfl (cnd_f rfl (cnd_t rfl (cnd_t rfl ?_))))
        refine fld (j := 0) fr2 (by omega) (fld (j := 1) fr2 (by omega) ?_)
        rw [← ha, ← hb]
        refine Same_spec d2 _ _ _ fun h3 d3 f3 _ => cnd_f (by rw [es']; rfl) (Count_spec d3 _ (cnd_f (by simp) (fin _ _ rfl d3 (fr2.trans (f3.fr (by omega) fr2.size)))))
    · have eu : unionV L a b = (false, 3, L) := by rw [unionV, if_neg good]
      rw [eu] at d2 fin ⊢
      refine cnd_f rfl (cnd_t rfl (cnd_f rfl (cnd_f rfl (cnd_f rfl (Count_spec d2 _ (cnd_f (by simp) (fin _ _ rfl d2 fr2)))))))
  · simp only [decide_eq_false_iff_not, Int.ofNat_eq_natCast] at g
    obtain rfl : i = l.n := by omega
    have hinv := unitedL_inv n.toNat M l.n
    obtain ⟨L, hL⟩ : ∃ L, L = unitedL n.toNat M l.n := ⟨_, rfl⟩
    rw [← hL] at d hlen hinv ⊢
    refine Groups_spec d _ fun s h1 d1 f1 g1 => ?_
    have hhi := d.hi
    obtain ⟨ss, o1, ol, oj⟩ := g1
    have gl : (groupsL L L.length).length = (rootsL L L.length).length := by simp [groupsL, rootsL]
    have cv : countV L = (rootsL L L.length).length := rfl
    have rl : (rootsL L L.length).length ≤ L.length := cntB_le L.length _
    have sn : s.n = (rootsL L L.length).length := by have := o1.1; rw [List.length_map] at this; omega
    have gj : ∀ j (hj : j < (rootsL L L.length).length), (groupsL L L.length).getD j [] = groupL L ((rootsL L L.length)[j]) L.length := fun j hj => by
      unfold groupsL
      show ((rootsL L L.length).map _).getD j [] = _
      simp [List.getD, List.getElem?_eq_getElem hj]
    refine for_of (rootsL L L.length).length (fun i t H => t.2.1 = (i : Int) ∧ t.1 = (((((rootsL L L.length).take i).map (szp L)).sum : Nat) : Int) ∧ DS H o L ∧ (o.hi ≤ H.size) ∧ Lst H 1 s (ss.map slv) o.hi ∧
      ∀ j, j < (groupsL L L.length).length → Lst H 1 (ss.getD j ⟨none, 0, 0⟩) (ints (nats ((groupsL L L.length).getD j []))) o.hi) ?_
      ⟨rfl, rfl, d1, by have := f1.size; omega, o1.le hhi, fun j hj => (oj j hj).le hhi⟩
    rintro i K2 ⟨t1, t2, u⟩ H2 hi ⟨rfl, rfl, d2, hs2, o2, oj2⟩ hK2
    simp only
    have tot : ∀ k, (((rootsL L L.length).take k).map (szp L)).sum ≤ L.length := fun k => by
      have e := sum_roots hinv L.length
      rw [atp_all hinv] at e
      have : ((rootsL L L.length).map (szp L)).sum = (((rootsL L L.length).take k).map (szp L)).sum + (((rootsL L L.length).drop k).map (szp L)).sum := by
        rw [← List.sum_append, ← List.map_append, List.take_append_drop]
      omega
    refine cnd_of (fun g => ?_) fun g => ?_
    · simp only [decide_eq_true_eq, Int.ofNat_eq_natCast, sn] at g
      have fi : i < (rootsL L L.length).length := by omega
      have ei : Int.toNat (i : Int) = i := rfl
      obtain ⟨x, hx, hxs⟩ := seg_some o2.seg (by omega)
      obtain ⟨t, ht⟩ : ∃ t, t = ss.getD i ⟨none, 0, 0⟩ := ⟨_, rfl⟩
      have hcell : ∀ {H' : Hp}, Lst H' 1 s (ss.map slv) o.hi → H'.cell (x.add (Int.toNat (i : Int) * 1)) = some (.slice t.a t.n t.c) := fun {H'} hl => by
        have hsg := hl.seg
        rw [hx] at hsg
        rw [ei, seg_cell hsg (by omega), Nat.mul_one, List.getElem?_map, List.getElem?_eq_getElem (by omega), ht]
        simp [List.getD, List.getElem?_eq_getElem (show i < ss.length by omega), slv]
      have lt := oj2 i (by omega)
      rw [← ht, gj i fi] at lt
      have gl' : (groupL L ((rootsL L L.length)[i]) L.length).length = szp L ((rootsL L L.length)[i]) := rfl
      have tn : t.n = szp L ((rootsL L L.length)[i]) := by have := lt.1; rw [ints_len, nats_len, gl'] at this; omega
      have hroot : (rootsL L L.length)[i] < L.length ∧ gt L ((rootsL L L.length)[i]) = (rootsL L L.length)[i] := by
        have : (rootsL L L.length)[i] ∈ rootsL L L.length := List.getElem_mem fi
        unfold rootsL at this
        rw [List.mem_filter, List.mem_range, beq_iff_eq] at this
        exact this
      obtain ⟨r, hr⟩ : ∃ r, r = (rootsL L L.length)[i] := ⟨_, rfl⟩
      rw [← hr] at tn hroot gl' lt
      have hpos : 1 ≤ szp L r := by
        have := cntB_pos (n := L.length) (k := r) (p := fun k => gt L k == r) hroot.1 (by rw [beq_iff_eq]; exact hroot.2)
        unfold szp; omega
      have hszle : szp L r ≤ L.length := cntB_le _ _
      refine ⟨x, hx, by omega, by omega, ldS_of (hcell o2) ⟨x, hx, by omega, by omega, ldS_of (hcell o2) (cnd_f (by simp only [Int.ofNat_eq_natCast, beq_eq_false_iff_ne]; omega) ⟨x, hx, by omega, by omega, ldS_of (hcell o2) ?_⟩)⟩⟩
      refine ix_ld1 (i := 0) lt.rd (by omega) (show (0 : Int) < (t.n : Int) by omega) rfl ⟨x, hx, by omega, by omega, ldS_of (hcell o2) ?_⟩
      rw [show Int.toNat 0 = 0 from rfl, nats_getD]
      have hmem : gt L ((groupL L r L.length).getD 0 0) = r ∧ (groupL L r L.length).getD 0 0 < L.length := by
        have : (groupL L r L.length).getD 0 0 ∈ groupL L r L.length := by
          rw [List.getD, List.getElem?_eq_getElem (by omega)]; exact List.getElem_mem _
        unfold groupL at this
        rw [List.mem_filter, List.mem_range, beq_iff_eq] at this
        exact ⟨this.2, this.1⟩
      obtain ⟨y, hy⟩ : ∃ y, y = (groupL L r L.length).getD 0 0 := ⟨_, rfl⟩
      rw [← hy] at hmem ⊢
      refine Size_spec d2 _ _ fun h3 d3 f3 z3 => ?_
      have o3 := o2.frI f3 (Nat.le_refl _)
      rw [add_add _ _ _ hxs, Nat.add_zero]
      refine ⟨hcell o3, cnd_f ?_ (hK2 fi _ _ ⟨?_, ?_, d3, by omega, o3, fun j hj => (oj2 j hj).frI f3 (Nat.le_refl _)⟩)⟩
      · have : sizeV L (y : Int) = ((t.n : Nat) : Int) := by
          rw [sizeV, if_pos (by omega), show Int.toNat (y : Int) = y from rfl, hmem.1, tn]; rfl
        rw [this]; simp
      · show w64 ((i : Int) + 1) = ((i + 1 : Nat) : Int)
        rw [w64, w64_eq (by omega) (by omega)]; omega
      · show w64 _ = _
        have e : (((rootsL L L.length).take (i + 1)).map (szp L)).sum = (((rootsL L L.length).take i).map (szp L)).sum + szp L r := by
          rw [List.take_succ_eq_append_getElem fi, List.map_append, List.sum_append, ← hr]; simp
        have t2 := tot (i + 1)
        rw [e] at t2 ⊢
        simp only [Int.ofNat_eq_natCast]
        rw [w64, w64_eq (by omega) (by omega)]; omega
    · simp only [decide_eq_false_iff_not, Int.ofNat_eq_natCast, sn] at g
      obtain rfl : i = (rootsL L L.length).length := by omega
      rw [List.take_length, sum_roots hinv, atp_all hinv]
      refine cnd_t (by rw [beq_iff_eq, sn, cv]; rfl) (cnd_t (by rw [beq_iff_eq]; omega) (Len_spec d2 _ (cnd_t (by rw [beq_iff_eq]; omega) (wk _))))

end Go.Hx
