/- Agreement of the sets with the document's: the laws News and Plays, over the abstract heap. No condition. -/
import Derived.Test.YtepochkdpllmkaaHxDsuH
import Derived.Test.YtepochkdpllmkaaHxDsuG
namespace Go.Hx

theorem agree_spec {h : Hp} {o : DO} {p : RO} {L : List Nat} (d : DS h o L) (r : RS h p L) (hd : o.hi ≤ p.lo ∨ p.hi ≤ o.lo) (a b : Int) (K : Bool → Hp → Prop)
    (hK : ∀ h', DS h' o L → RS h' p L → FrI o.lo o.hi h h' → K true h') : g_law08_agree (some ⟨o.a, 0, none⟩) (some ⟨p.a, 0, none⟩) a b h K := by
  unfold g_law08_agree
  have hn := d.n
  have hd' : p.hi ≤ o.lo ∨ o.hi ≤ p.lo := by omega
  refine Least_spec d _ _ fun h1 d1 f1 _ => ?_
  have r1 := r.other f1 hd'
  refine Least08 r1 _ _ (cnd_t (by simp) (cnd_t (by simp) (Same_spec d1 _ _ _ fun h2 d2 f2 _ => ?_)))
  have r2 := r1.other f2 hd'
  refine Same08 r2 _ _ _ (cnd_t (by simp) (Size_spec d2 _ _ fun h3 d3 f3 _ => ?_))
  have r3 := r2.other f3 hd'
  refine Size08 r3 _ _ (cnd_t (by simp) (Count_spec d3 _ (Count08 r3 _ (cnd_t (by simp) (Len_spec d3 _ (Len08 r3 _ (cnd_t (by simp) (Labels_spec d3 _ fun s4 h4 d4 f4 l4 => ?_))))))))
  have r4 := r3.other f4 hd'
  refine Labels08 r4 _ fun s5 h5 f5 l5 => ?_
  have n4 : s4.n = L.length := by have := l4.1; rw [ints_len, nats_len] at this; omega
  refine same08_spec _ _ _ _ _ _ (l4.fr f5).rd l5.rd (by omega) ?_
  rw [decide_eq_true rfl]
  exact hK _ (d4.fr f5) (r4.fr f5) ((((f1.trans f2).trans f3).trans f4).trans f5.frI)

theorem groups_fit (L : List Nat) (hn : L.length ≤ 65536) : (groupsL L L.length).length ≤ 65536 ∧ ∀ j, j < (groupsL L L.length).length → ((groupsL L L.length).getD j []).length ≤ 65536 := by
  have h1 := groupsL_le L L.length
  refine ⟨by omega, fun j hj => ?_⟩
  have : (groupsL L L.length).getD j [] ∈ groupsL L L.length := by simp [List.getD, List.getElem?_eq_getElem hj]
  unfold groupsL at this
  rw [List.mem_map] at this
  obtain ⟨i, -, hi⟩ := this
  unfold groupsL
  rw [← hi]
  have := groupL_le L i L.length
  omega

theorem both_groups {h : Hp} {o : DO} {p : RO} {L : List Nat} (d : DS h o L) (r : RS h p L) (hd : o.hi ≤ p.lo ∨ p.hi ≤ o.lo) (K : Bool → Hp → Prop)
    (hK : ∀ h', DS h' o L → RS h' p L → FrI o.lo o.hi h h' → K true h') :
    g_dsu_Sets_Groups (some ⟨o.a, 0, none⟩) h fun r20 h21 => g_ref08_Sets_Groups (some ⟨p.a, 0, none⟩) h21 fun r22 h23 => g_law08_groups r20 r22 h23 fun r24 h25 => K r24 h25 := by
  have hd' : p.hi ≤ o.lo ∨ o.hi ≤ p.lo := by omega
  obtain ⟨g1, g2⟩ := groups_fit L d.n
  refine Groups_spec d _ fun s1 h1 d1 f1 e1 => ?_
  have r1 := r.other f1 hd'
  refine Groups08 r1 d.lab _ fun s2 h2 f2 e2 => groups_spec (e1.fr f2) e2 g1 g2 _ (hK _ (d1.fr f2) (r1.fr f2) (f1.trans f2.frI))

theorem nil_valid {h : Hp} (K : Bool → Hp → Prop) (hk : K false h) : g_ref08_Sets_valid none h K := by
  unfold g_ref08_Sets_valid; exact cnd_f rfl hk

theorem nil_agree {h : Hp} (a b : Int) {K : Bool → Hp → Prop} (hK : K true h) : g_law08_agree none none a b h K := by
  have d : NilS h none := .inl rfl
  have v := @nil_valid h
  have hs : ∀ (a : Int) (K : Bool → Hp → Prop), K false h → g_ref08_Sets_has none a h K := fun a K hk => by unfold g_ref08_Sets_has; exact v _ (cnd_f rfl hk)
  have nilR : Rd h 1 ⟨none, 0, 0⟩ (ints []) := (Lst.nil h 1 0).rd
  unfold g_law08_agree
  refine nil_Least d _ _ ?_
  unfold g_ref08_Sets_Least
  refine v _ (cnd_t rfl (cnd_t rfl (cnd_t rfl (nil_Same d _ _ _ ?_))))
  unfold g_ref08_Sets_Same
  refine hs _ _ (cnd_f rfl (cnd_t rfl (nil_Size d _ _ ?_)))
  unfold g_ref08_Sets_Size
  refine hs _ _ (cnd_f rfl (cnd_t rfl (nil_Count d _ ?_)))
  unfold g_ref08_Sets_Count
  refine v _ (cnd_f rfl (cnd_t rfl (nil_Len d _ ?_)))
  unfold g_ref08_Sets_Len
  refine v _ (cnd_t rfl (cnd_t rfl (nil_Labels d _ ?_)))
  unfold g_ref08_Sets_Labels
  exact v _ (cnd_f rfl (same08_spec _ _ [] [] _ _ nilR nilR (by simp) (by rw [decide_eq_true rfl]; exact hK)))

theorem nil_groups {h : Hp} (K : Bool → Hp → Prop) (hK : K true h) : g_dsu_Sets_Groups none h fun r20 h21 => g_ref08_Sets_Groups none h21 fun r22 h23 => g_law08_groups r20 r22 h23 fun r24 h25 => K r24 h25 := by
  refine nil_Groups (.inl rfl) _ ?_
  unfold g_ref08_Sets_Groups
  exact nil_valid _ (cnd_f rfl (groups_spec (G := []) (GrpO.nil h 0).grp (GrpO.nil h 0).grp (by simp) (fun j hj => by simp at hj) _ hK))

theorem g_law08_DsuNews_true (n a b : Int) (h : Hp) (K : Bool → Hp → Prop) (_ : -9223372036854775808 ≤ n ∧ n ≤ 9223372036854775807) (_ : -9223372036854775808 ≤ a ∧ a ≤ 9223372036854775807)
    (_ : -9223372036854775808 ≤ b ∧ b ≤ 9223372036854775807) (hK : ∀ h', K true h') : g_law08_DsuNews n a b h K := by
  unfold g_law08_DsuNews
  have wk : ∀ h', g_law08_works h' fun r h2 => K r h2 := fun h' => works08_spec _ _ fun h2 _ => hK h2
  refine New_spec n _ _ (fun bad => ?_) fun n0 n1 o h3 d3 f3 lo3 hi3 => ?_
  · -- refused
    have rest : (g_ref08_New n h fun r15 r16 h17 =>
        cnd ((2 : Int) == r16)
        (cnd ((Option.isNone (none : Option Addr)) == (Option.isNone r15))
          (g_law08_agree none r15 a b h17 fun r18 h19 =>
            cnd r18
            (g_dsu_Sets_Groups none h19 fun r20 h21 =>
              g_ref08_Sets_Groups r15 h21 fun r22 h23 =>
              g_law08_groups r20 r22 h23 fun r24 h25 =>
              cnd r24
              (g_law08_works h25 fun r26 h27 =>
                K r26 h27)
              (K false h25))
            (K false h19))
          (K false h17))
        (K false h17)) := by
      refine New08 n _ _ (fun _ => cnd_t rfl (cnd_t rfl ?_)) fun n0 n1 => by omega
      exact nil_agree _ _ (cnd_t rfl (nil_groups _ (cnd_t rfl (wk _))))
    unfold jn
    refine cnd_of (fun c => ?_) fun c => cnd_f rfl rest
    refine cnd_of (fun c2 => ?_) fun c2 => rest
    simp only [decide_eq_true_eq] at c c2
    omega
  · have hlen : (idL n.toNat).length = n.toNat := by simp [idL]
    unfold jn
    have rest : (g_ref08_New n h3 fun r15 r16 h17 =>
        cnd ((0 : Int) == r16)
        (cnd ((Option.isNone (some (⟨o.a, 0, none⟩ : Addr))) == (Option.isNone r15))
          (g_law08_agree (some ⟨o.a, 0, none⟩) r15 a b h17 fun r18 h19 =>
            cnd r18
            (g_dsu_Sets_Groups (some ⟨o.a, 0, none⟩) h19 fun r20 h21 =>
              g_ref08_Sets_Groups r15 h21 fun r22 h23 =>
              g_law08_groups r20 r22 h23 fun r24 h25 =>
              cnd r24
              (g_law08_works h25 fun r26 h27 =>
                K r26 h27)
              (K false h25))
            (K false h19))
          (K false h17))
        (K false h17)) := by
      refine New08 n _ _ (fun bad => by omega) fun _ _ p h4 r4 f4 lo4 hi4 => cnd_t rfl (cnd_t rfl ?_)
      have hd : o.hi ≤ p.lo ∨ p.hi ≤ o.lo := .inl (by omega)
      refine agree_spec (d3.fr f4) r4 hd _ _ _ fun h5 d5 r5 _ => cnd_t rfl (both_groups d5 r5 hd _ fun h6 _ _ _ => cnd_t rfl (wk _))
    refine cnd_of (fun c => ?_) fun c => cnd_f rfl rest
    refine cnd_of (fun c2 => ?_) fun c2 => rest
    refine cnd_t rfl (cnd_t rfl (Len_spec d3 _ (cnd_t (by rw [hlen, beq_iff_eq]; omega) (Count_spec d3 _ (cnd_t ?_ (Size_spec d3 _ _ fun h4 _ _ _ => cnd_t ?_ (wk _)))))))
    · have : countV (idL n.toNat) = n.toNat := by
        unfold countV
        rw [hlen, cntB_congr (q := fun _ => true) fun k hk => by rw [idL_gt hk]; exact beq_self_eq_true k, cntB_all]
      rw [this, beq_iff_eq]; omega
    · rw [decide_eq_true_eq]
      unfold sizeV
      split
      · rename_i hh
        rw [hlen] at hh ⊢
        rw [idL_gt (show a.toNat < n.toNat by omega), cntB_congr (q := fun k => k == a.toNat) fun k hk => by rw [idL_gt hk], cntB_one (by omega)]
        decide
      · decide

theorem g_law08_DsuPlays_true (n : Int) (l : Sl) (x y : Int) (h : Hp) (K : Bool → Hp → Prop) (_ : -9223372036854775808 ≤ n ∧ n ≤ 9223372036854775807) {M : List Int} (hM : Rd h 2 l (ints M)) (_ : l.n ≤ 2 ^ 63 - 1)
    (_ : ∀ x ∈ M, -9223372036854775808 ≤ x ∧ x ≤ 9223372036854775807) (_ : -9223372036854775808 ≤ x ∧ x ≤ 9223372036854775807) (_ : -9223372036854775808 ≤ y ∧ y ≤ 9223372036854775807) (hK : ∀ h', K true h') :
    g_law08_DsuPlays n l x y h K := by
  unfold g_law08_DsuPlays
  have wk : ∀ h', g_law08_works h' fun r h2 => K r h2 := fun h' => works08_spec _ _ fun h2 _ => hK h2
  refine New_spec n _ _ (fun bad => New08 n _ _ (fun _ => cnd_f rfl ?_) fun _ _ => by omega) fun n0 n1 o h3 d3 f3 lo3 hi3 => New08 n _ _ (fun bad => by omega) fun _ _ p h6 r6 f6 lo6 hi6 => cnd_f rfl ?_
  · refine cnd_of (fun _ => cnd_t rfl (wk _)) fun _ => cnd_of (fun _ => cnd_t rfl (wk _)) fun c2 => ?_
    simp only [decide_eq_false_iff_not, Int.ofNat_eq_natCast] at c2
    unfold jn
    refine for_of l.n (fun i t H => t.1 = (i : Int) ∧ H = h) ?_ ⟨rfl, rfl⟩
    rintro i K1 ⟨t, u⟩ H hi ⟨rfl, rfl⟩ hK1
    simp only
    refine cnd_of (fun g => ?_) fun g => ?_
    · simp only [decide_eq_true_eq, Int.ofNat_eq_natCast] at g
      have fld : ∀ {j : Nat} {K : Int → Prop}, j < 2 → K (M.getD (i * 2 + j) 0) → ix l.a l.n (i : Int) fun a => bnd (j : Int) 2 (ldI .i64 H ((a.add (Int.toNat (i : Int) * 2)).add (Int.toNat (j : Int) * 1)) K) := by
        intro j K hj hk
        refine ix_rd hM (by omega) (by omega) (by omega) fun x hx hc => ⟨by omega, by omega, ?_⟩
        rw [add_add _ _ _ hx]
        refine ldI_of ?_ hk
        have := hc j hj
        rwa [show Int.toNat (j : Int) * 1 = j by simp]
      refine fld (j := 0) (by omega) (fld (j := 1) (by omega) (nil_Union (.inl rfl) _ _ _ (fld (j := 0) (by omega) (fld (j := 1) (by omega) ?_))))
      unfold g_ref08_Sets_Union
      refine nil_valid _ (cnd_t rfl (cnd_f rfl (cnd_f rfl (fld (j := 0) (by omega) (nil_agree _ _ (cnd_f rfl (fld (j := 1) (by omega) (nil_agree _ _ (cnd_f rfl (hK1 (by omega) _ _ ⟨?_, rfl⟩))))))))))
      show w64 ((i : Int) + 1) = ((i + 1 : Nat) : Int)
      rw [w64, w64_eq (by omega) (by omega)]; omega
    · exact nil_groups _ (cnd_t rfl (nil_agree _ _ (cnd_t rfl (wk _))))
  · refine cnd_of (fun c => cnd_t rfl (wk _)) fun c => cnd_of (fun c2 => cnd_t rfl (wk _)) fun c2 => ?_
    simp only [decide_eq_false_iff_not, Int.ofNat_eq_natCast] at c c2
    have hd : o.hi ≤ p.lo ∨ p.hi ≤ o.lo := .inl (by omega)
    have hM6 := (hM.fr f3).fr f6
    have fr6 : Fr h.size h h6 := f3.trans (f6.mono f3.size)
    have s3 := f3.size
    unfold jn
    refine for_of l.n (fun i t H => t.1 = (i : Int) ∧ DS H o (unitedL n.toNat M i) ∧ RS H p (unitedL n.toNat M i) ∧ Fr h.size h H) ?_ ⟨rfl, d3.fr f6, r6, fr6⟩
    rintro i K1 ⟨t, u⟩ H hi ⟨rfl, d, r, f⟩ hK1
    simp only
    refine cnd_of (fun g => ?_) fun g => ?_
    · simp only [decide_eq_true_eq, Int.ofNat_eq_natCast] at g
      have ei : Int.toNat (i : Int) = i := rfl
      have rd := hM.fr f
      have fld : ∀ {H' : Hp} {j : Nat} {K : Int → Prop}, Fr h.size h H' → j < 2 → K (M.getD (i * 2 + j) 0) → ix l.a l.n (i : Int) fun a => bnd (j : Int) 2 (ldI .i64 H' ((a.add (Int.toNat (i : Int) * 2)).add (Int.toNat (j : Int) * 1)) K) := by
        intro H' j K fr hj hk
        refine ix_rd (hM.fr fr) (by omega) (by omega) (by omega) fun x hx hc => ⟨by omega, by omega, ?_⟩
        rw [add_add _ _ _ hx]
        refine ldI_of ?_ hk
        have := hc j hj
        rwa [show Int.toNat (j : Int) * 1 = j by simp]
      refine fld (j := 0) f (by omega) (fld (j := 1) f (by omega) (Union_spec d _ _ _ fun h7 d7 f7 => ?_))
      have fr7 : Fr h.size h h7 := f.trans (f7.fr (by omega) f.size)
      have r7 := r.other f7 (by omega)
      refine fld (j := 0) fr7 (by omega) (fld (j := 1) fr7 (by omega) (Union08 r7 _ _ _ fun h8 r8 f8 _ => ?_))
      have fr8 : Fr h.size h h8 := fr7.trans (f8.fr (by omega) fr7.size)
      have d8 := d7.other f8 (by omega)
      refine cnd_f (by simp) (cnd_f (by simp) (fld (j := 0) fr8 (by omega) (agree_spec d8 r8 hd _ _ _ fun h9 d9 r9 f9 => cnd_f rfl ?_)))
      have fr9 : Fr h.size h h9 := fr8.trans (f9.fr (by omega) fr8.size)
      refine fld (j := 1) fr9 (by omega) (agree_spec d9 r9 hd _ _ _ fun h10 d10 r10 f10 => cnd_f rfl (hK1 (by omega) _ _ ⟨?_, d10, r10, fr9.trans (f10.fr (by omega) fr9.size)⟩))
      show w64 ((i : Int) + 1) = ((i + 1 : Nat) : Int)
      rw [w64, w64_eq (by omega) (by omega)]; omega
    · refine both_groups d r hd _ fun h7 d7 r7 _ => cnd_t rfl (agree_spec d7 r7 hd _ _ _ fun h8 _ _ _ => cnd_t rfl (wk _))

end Go.Hx
