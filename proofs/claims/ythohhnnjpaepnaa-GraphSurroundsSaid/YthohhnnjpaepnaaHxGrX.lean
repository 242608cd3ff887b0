/- Distances of the document: round by round. No condition. -/
import Derived.Test.YthohhnnjpaepnaaHxGrO
import Derived.Test.YthohhnnjpaepnaaHxGrR
namespace Go.Hx
set_option linter.unusedSimpArgs false
set_option linter.unusedVariables false

/-! ### Plain -/

theorem vals_lt {n : Nat} {W : List Int} (hl : W.length = n) (nxt : ∀ w, w < n → 0 < W.getD w 0 → ∃ u, u < n ∧ W.getD u 0 = W.getD w 0 - 1) {w : Nat} (hw : w < n) : W.getD w 0 < n := by
  have all : ∀ (k : Nat) (w : Nat), w < n → W.getD w 0 = k → ∀ j : Nat, j ≤ k → ∃ x, x < n ∧ W.getD x 0 = j := by
    intro k
    induction k with
    | zero => intro w hw e j hj; exact ⟨w, hw, by omega⟩
    | succ k ih =>
      intro w hw e j hj
      by_cases ej : j = k + 1
      · exact ⟨w, hw, by omega⟩
      · obtain ⟨u, hu, eu⟩ := nxt w hw (by omega)
        exact ih u hu (by omega) j (by omega)
  by_cases q : 0 ≤ W.getD w 0
  · have nd : ((List.range ((W.getD w 0).toNat + 1)).map Int.ofNat).Nodup := List.nodup_range.map _ fun a b hab => by intro e; exact hab (Int.ofNat.inj e)
    have sub : (List.range ((W.getD w 0).toNat + 1)).map Int.ofNat ⊆ W := fun x hx => by
      obtain ⟨j, hj, rfl⟩ := List.mem_map.1 hx
      rw [List.mem_range] at hj
      obtain ⟨y, hy, ey⟩ := all (W.getD w 0).toNat w hw (by omega) j (by omega)
      rw [show Int.ofNat j = (j : Int) from rfl, ← ey, List.getD, List.getElem?_eq_getElem (by omega)]
      exact List.getElem_mem _
    have := nd.length_le_of_subset sub
    rw [List.length_map, List.length_range] at this
    omega
  · omega

/-- Where the rounds stand. -/
structure RE (P : Nat → Nat → Prop) (n v : Nat) (W : List Int) (d up : Nat) : Prop where
  len : W.length = n
  low : ∀ w, w < n → -1 ≤ W.getD w 0
  at0 : W.getD v 0 = 0
  z : ∀ w, w < n → W.getD w 0 = 0 → w = v
  nxt : ∀ w, w < n → 0 < W.getD w 0 → ∃ u, u < n ∧ adj P u w ∧ W.getD u 0 = W.getD w 0 - 1
  up : ∀ w, w < n → W.getD w 0 ≤ up
  cl : ∀ w, w < n → 0 ≤ W.getD w 0 → W.getD w 0 < d → ∀ z, z < n → adj P w z → 0 ≤ W.getD z 0 ∧ W.getD z 0 ≤ W.getD w 0 + 1

theorem RE.put {P : Nat → Nat → Prop} {n v d : Nat} {W : List Int} (r : RE P n v W d (d + 1)) {u w : Nat} (hu : u < n) (hw : w < n) (a : adj P u w) (eu : W.getD u 0 = d) (ew : W.getD w 0 = -1) : RE P n v (W.set w ((d : Int) + 1)) d (d + 1) := by
  have g : ∀ y, (W.set w ((d : Int) + 1)).getD y 0 = if y = w then (d : Int) + 1 else W.getD y 0 := fun y => setI_getD (by rw [r.len]; exact hw)
  have vw : v ≠ w := fun e => by rw [← e, r.at0] at ew; omega
  have uw : u ≠ w := fun e => by rw [← e, eu] at ew; omega
  refine ⟨by simp [r.len], fun x hx => ?_, by rw [g, if_neg vw]; exact r.at0, fun x hx e => ?_, fun x hx e => ?_, fun x hx => ?_, fun x hx h0 h1 z hz az => ?_⟩
  · rw [g]; have := r.low x hx; split <;> omega
  · rw [g] at e; split at e
    · omega
    · exact r.z x hx e
  · rw [g] at e ⊢
    split
    · rename_i ex
      subst ex
      exact ⟨u, hu, a, by rw [g, if_neg uw, eu]; omega⟩
    · rename_i ex
      rw [if_neg ex] at e
      obtain ⟨t, ht, ta, te⟩ := r.nxt x hx e
      have tw : t ≠ w := fun q => by rw [q, ew] at te; omega
      exact ⟨t, ht, ta, by rw [g, if_neg tw]; exact te⟩
  · rw [g]; have := r.up x hx; split <;> omega
  · rw [g] at h0 h1
    split at h0
    · omega
    · rename_i ex
      rw [if_neg ex] at h1
      obtain ⟨c1, c2⟩ := r.cl x hx h0 h1 z hz az
      have zw : z ≠ w := fun q => by rw [q, ew] at c1; omega
      rw [g, g, if_neg ex, if_neg zw]
      exact ⟨c1, c2⟩

theorem RE.dis {P : Nat → Nat → Prop} {n v : Nat} {W : List Int} (r : RE P n v W n n) : Dis P n v W :=
  ⟨r.len, r.low, r.at0, r.z, r.nxt, fun w hw h0 z hz a => r.cl w hw h0 (vals_lt r.len (fun w hw h => by obtain ⟨u, hu, _, e⟩ := r.nxt w hw h; exact ⟨u, hu, e⟩) hw) z hz a⟩

/-! ### The walk -/

theorem half_spec {h : Hp} {sd : Sl} {W : List Int} {B u w d n v : Nat} {P : Nat → Nat → Prop} (l : Lst h 1 sd (ints W) B) (re : RE P n v W d (d + 1)) (hu : u < n) (hw : w < n) (a : adj P u w) (hd : d < 2 ^ 40) (K : Hp → Prop)
    (hK : ∀ h' W', h'.size = h.size → Lst h' 1 sd (ints W') B → (∀ c, nb sd c → h'.blk c = h.blk c) → RE P n v W' d (d + 1) → (∀ x, x < n → 0 ≤ W.getD x 0 → W'.getD x 0 = W.getD x 0) → (∀ x, x < n → W'.getD x 0 = d → W.getD x 0 = d) → (W'.getD u 0 = d → 0 ≤ W'.getD w 0) → K h') :
    ix sd.a sd.n (u : Int) fun a => ldI .i64 h (a.add (Int.toNat (u : Int) * 1)) fun n1 => cnd (n1 == (d : Int)) (ix sd.a sd.n (w : Int) fun a => ldI .i64 h (a.add (Int.toNat (w : Int) * 1)) fun n2 => cnd (n2 == (-1)) (ix sd.a sd.n (w : Int) fun a => stc h ((a.add (Int.toNat (w : Int) * 1)).add 0) (.int .i64 (w64 ((d : Int) + 1))) fun h' => K h') (K h)) (K h) := by
  have sn : sd.n = n := by have := l.1; rw [ints_len, re.len] at this; omega
  have same : (W.getD u 0 = d → 0 ≤ W.getD w 0) → K h := fun q => hK h W rfl l (fun _ _ => rfl) re (fun _ _ _ => rfl) (fun _ _ e => e) q
  refine ix_ld1 l.rd (show (0 : Int) ≤ (u : Int) by omega) (by omega) rfl ?_
  rw [Int.toNat_natCast]
  refine cnd_of (fun c => ?_) fun c => same fun e => by rw [beq_eq_false_iff_ne] at c; exact absurd e c
  rw [beq_iff_eq] at c
  refine ix_ld1 l.rd (show (0 : Int) ≤ (w : Int) by omega) (by omega) rfl ?_
  rw [Int.toNat_natCast]
  refine cnd_of (fun c2 => ?_) fun c2 => same fun _ => by rw [beq_eq_false_iff_ne] at c2; have := re.low w hw; omega
  rw [beq_iff_eq] at c2
  have e1 : w64 ((d : Int) + 1) = (d : Int) + 1 := by rw [w64, w64_eq (by omega) (by omega)]
  rw [e1]
  have g : ∀ y, (W.set w ((d : Int) + 1)).getD y 0 = if y = w then (d : Int) + 1 else W.getD y 0 := fun y => setI_getD (by rw [re.len]; exact hw)
  have uw : u ≠ w := fun e => by rw [← e, c] at c2; omega
  refine ix_st1 l (show (0 : Int) ≤ (w : Int) by omega) (by omega) rfl fun h' z' l' k' => ?_
  rw [Int.toNat_natCast] at l'
  refine hK h' _ z' l' k' (re.put hu hw a c c2) (fun x hx h0 => ?_) (fun x hx e => ?_) fun _ => ?_
  · rw [g, if_neg fun e => by rw [e, c2] at h0; omega]
  · rw [g] at e; split at e
    · omega
    · exact e
  · rw [g, if_pos rfl]; omega

theorem rgHas_spec {h : Hp} {a : Nat} {e : Sl} {n m : Nat} {M : List Int} {B : Nat} (d : RG h a e n m M B) (v : Int) (K : Bool → Hp → Prop) (hK : K (decide (0 ≤ v ∧ v < (n : Int))) h) : g_ref13_Graph_Has (some ⟨a, 0, none⟩) v h K := by
  unfold g_ref13_Graph_Has
  refine rgValid_spec d _ (cnd_t rfl (cnd_of (fun c => nn_of ?_) fun c => ?_))
  · simp only [add_mk, Nat.zero_add]
    refine ldI_of (by rw [d.cell]; rfl) ?_
    simp only [decide_eq_true_eq] at c
    rw [show decide (v < (n : Int)) = decide (0 ≤ v ∧ v < (n : Int)) from by rw [Bool.eq_iff_iff]; simp only [decide_eq_true_eq]; omega]
    exact hK
  · simp only [decide_eq_false_iff_not] at c
    rw [show decide (0 ≤ v ∧ v < (n : Int)) = false from by rw [decide_eq_false_iff_not]; omega] at hK
    exact hK

set_option maxHeartbeats 2000000 in
theorem rDist_spec {h : Hp} {a : Nat} {e : Sl} {n m : Nat} {M : List Int} {B : Nat} (d : RG h a e n m M B) (v : Int) (K : Sl → Hp → Prop) (hbad : ¬ (0 ≤ v ∧ v < (n : Int)) → K ⟨none, 0, 0⟩ h)
    (hok : ∀ (u : Nat) s h' W, v = u → u < n → Lst h' 1 s (ints W) h.size → Dis (eP M m) n u W → Fr h.size h h' → K s h') : g_ref13_Graph_Dist (some ⟨a, 0, none⟩) v h K := by
  obtain ⟨-, gn, gm, gok⟩ := id d.ok
  have dia := d.ia
  unfold g_ref13_Graph_Dist
  refine rgHas_spec d v _ (cnd_of (fun c => hbad (by simp at c; omega)) fun c => ?_)
  simp only [Bool.not_eq_false', decide_eq_true_eq] at c
  obtain ⟨u, rfl⟩ : ∃ u : Nat, v = u := ⟨v.toNat, by omega⟩
  have hun : u < n := by omega
  refine jn_of (fun (t : Sl × Unit) g => Fr h.size h g ∧ Lst g 1 t.1 (ints (List.replicate n (-1))) h.size) ?_ fun K5 hK5 => ?_
  case refine_2 =>
    refine for_of n (fun i (t : Sl × Int × Unit) g => t.2.1 = (i : Int) ∧ Fr h.size h g ∧ Lst g 1 t.1 (ints (List.replicate i (-1))) h.size) ?_ ⟨rfl, Fr.refl _ _, Lst.nil _ _ _⟩
    rintro i Kr ⟨t, st, _⟩ g hi ⟨rfl, fg, lg⟩ hKr
    have zg := fg.size
    refine nn_of ?_
    simp only [add_mk, Nat.zero_add]
    refine ldI_of (by rw [(d.fr fg).cell]; rfl) (cnd_of (fun c => ?_) fun c => ?_)
    · simp only [decide_eq_true_eq] at c
      have tl := lg.1
      rw [ints_len, List.length_replicate] at tl
      simp only at tl
      refine alo_of fun g2 z2 b2 k2 => ?_
      have f2 : Fr g.size g g2 := ⟨by omega, k2⟩
      refine app_lst (news := ints [-1]) (lg.fr f2).eta (by omega) (rd_row (n := 1) (c := 1) (z := 1) b2 (by omega) rfl).1 (ints_one _) rfl (by simp only; omega) (by simp only; omega) fun s' g3 l3 n3 z3 f3 _ _ => hKr (by omega) _ _ ⟨?_, ⟨by omega, fun y hy => by rw [f3.blk _ (by omega), k2 _ (by omega), fg.blk _ hy]⟩, ?_⟩
      · simp only; rw [w64, w64s (by omega)]
      · rw [List.replicate_succ', ints_app]; exact l3
    · simp only [decide_eq_false_iff_not] at c
      obtain rfl : i = n := by omega
      exact hK5 _ _ ⟨fg, lg.eta⟩
  rintro ⟨sd, _⟩ h4 ⟨f4, l4⟩
  simp only at l4 ⊢
  have z4 := f4.size
  have sn : sd.n = n := by have := l4.1; rw [ints_len, List.length_replicate] at this; omega
  refine ix_st1 l4 (show (0 : Int) ≤ (u : Int) by omega) (by omega) rfl fun h7 z7 l7 k7 => ?_
  rw [Int.toNat_natCast] at l7
  have gW : ∀ j, ((List.replicate n (-1 : Int)).set u 0).getD j 0 = if j = u then 0 else (List.replicate n (-1 : Int)).getD j 0 := fun j => setI_getD (by simpa using hun)
  have gR : ∀ j, j < n → (List.replicate n (-1 : Int)).getD j 0 = -1 := fun j hj => by simp [List.getD, hj]
  have nbl : ∀ {g : Hp} {W : List Int}, Lst g 1 sd (ints W) h.size → ∀ c, c < h.size → nb sd c := fun l c hc x hx => by have := (l.blk_lt hx).1; omega
  have F7 : Fr h.size h h7 := ⟨by omega, fun y hy => by rw [k7 _ (nbl l4 y hy), f4.blk y hy]⟩
  have R7 : RE (eP M m) n u ((List.replicate n (-1)).set u 0) 0 0 := by
    refine ⟨by simp, fun w hw => ?_, by rw [gW, if_pos rfl], fun w hw e => ?_, fun w hw e => ?_, fun w hw => ?_, fun w hw h0 h1 => ?_⟩
    · rw [gW, gR w hw]; split <;> omega
    · rw [gW, gR w hw] at e; split at e
      · assumption
      · omega
    · rw [gW, gR w hw] at e; split at e <;> omega
    · rw [gW, gR w hw]; split <;> omega
    · omega
  refine for_of n (fun dd (t : Int × Unit) g => t.1 = (dd : Int) ∧ ∃ W, Fr h.size h g ∧ Lst g 1 sd (ints W) h.size ∧ RE (eP M m) n u W dd dd) ?_ ⟨rfl, _, F7, l7, R7⟩
  rintro dd Kr ⟨st, _⟩ g hdd ⟨rfl, W, fg, lg, re⟩ hKr
  refine nn_of ?_
  simp only [add_mk, Nat.zero_add]
  refine ldI_of (by rw [(d.fr fg).cell]; rfl) (cnd_of (fun c => ?_) fun c => ?_)
  rotate_left
  · simp only [decide_eq_false_iff_not] at c
    obtain rfl : dd = n := by omega
    exact hok u sd g W rfl hun lg re.dis fg
  simp only [decide_eq_true_eq] at c
  have re1 : RE (eP M m) n u W dd (dd + 1) := ⟨re.len, re.low, re.at0, re.z, re.nxt, fun w hw => by have := re.up w hw; omega, re.cl⟩
  refine for_of m (fun i (t : Int × Unit) g => t.1 = (i : Int) ∧ ∃ W, Fr h.size h g ∧ Lst g 1 sd (ints W) h.size ∧ RE (eP M m) n u W dd (dd + 1) ∧ ∀ j, j < i → (W.getD (eU M j) 0 = dd → 0 ≤ W.getD (eV M j) 0) ∧ (W.getD (eV M j) 0 = dd → 0 ≤ W.getD (eU M j) 0)) ?_ ⟨rfl, W, fg, lg, re1, fun j hj => by omega⟩
  rintro i Ke ⟨st, _⟩ g hi ⟨rfl, W, fg, lg, re, hj⟩ hKe
  have dg := d.fr fg
  refine nn_of ?_
  simp only [add_mk, Nat.zero_add]
  have rdE : ∀ {g : Hp} {K : Sl → Prop}, Fr h.size h g → K ⟨e.a, e.n, e.c⟩ → ldS g ⟨a, 2, none⟩ K := fun fg hk => ldS_of (p := e.a) (n := e.n) (c := e.c) (by rw [(d.fr fg).cell]; rfl) hk
  refine rdE fg (cnd_of (fun c => ?_) fun c => ?_)
  rotate_left
  · simp only [decide_eq_false_iff_not, d.en, Int.ofNat_eq_natCast] at c
    obtain rfl : i = m := by omega
    refine hKr (by omega) _ _ ⟨?_, W, fg, lg, re.len, re.low, re.at0, re.z, re.nxt, re.up, fun w hw h0 h1 z hz az => ?_⟩
    · simp only; rw [w64, w64s (by omega)]
    by_cases q : W.getD w 0 < dd
    · exact re.cl w hw h0 q z hz az
    · have ew : W.getD w 0 = dd := by omega
      have uz := re.up z hz
      refine ⟨?_, by omega⟩
      rcases az with ⟨j, hjm, rfl, rfl⟩ | ⟨j, hjm, rfl, rfl⟩
      · exact (hj j hjm).1 ew
      · exact (hj j hjm).2 ew
  simp only [decide_eq_true_eq, d.en, Int.ofNat_eq_natCast] at c
  have him : i < m := by omega
  obtain ⟨hu, hv, hne, e1, e2⟩ := (gok i him).lt
  have hie : i < e.n := by rw [d.en]; exact him
  refine nn_of ?_
  simp only [add_mk, Nat.zero_add]
  refine rdE fg (rd3k (s := e) dg.le.rd hie (by omega) ?_)
  rw [e1]
  refine nn_of ?_
  simp only [add_mk, Nat.zero_add]
  refine rdE fg (rd3k (s := e) dg.le.rd hie (by omega) ?_)
  rw [e2]
  have auv : adj (eP M m) (eU M i) (eV M i) := .inl ⟨i, him, rfl, rfl⟩
  refine jn_of (fun _ g' => ∃ W', Fr h.size h g' ∧ Lst g' 1 sd (ints W') h.size ∧ RE (eP M m) n u W' dd (dd + 1) ∧ (∀ x, x < n → 0 ≤ W.getD x 0 → W'.getD x 0 = W.getD x 0) ∧ (∀ x, x < n → W'.getD x 0 = dd → W.getD x 0 = dd) ∧ (W'.getD (eU M i) 0 = dd → 0 ≤ W'.getD (eV M i) 0)) ?_ fun K28 hK28 => ?_
  case refine_2 =>
    exact half_spec lg re hu hv auv (by omega) _ fun h' W' z' l' k' re' m1 m2 m3 => hK28 _ _ ⟨W', ⟨by rw [z']; exact fg.size, fun y hy => by rw [k' y (nbl lg y hy), fg.blk y hy]⟩, l', re', m1, m2, m3⟩
  rintro ⟨⟩ g' ⟨W', fg', lg', re', m1, m2, m3⟩
  refine half_spec lg' re' hv hu auv.symm (by omega) (fun g2 => Ke (w64 ((i : Int) + 1), ()) g2) fun h' W2 z' l' k' re2 m1' m2' m3' => hKe him _ _ ⟨?_, W2, ⟨by rw [z']; exact fg'.size, fun y hy => by rw [k' y (nbl lg' y hy), fg'.blk y hy]⟩, l', re2, fun j hji => ?_⟩
  · simp only; rw [w64, w64s (by omega)]
  · have keep : ∀ x, x < n → 0 ≤ W'.getD x 0 → 0 ≤ W2.getD x 0 := fun x hx q => by rw [m1' x hx q]; exact q
    by_cases ej : j = i
    · subst ej
      exact ⟨fun q => keep _ hv (m3 (m2' _ hu q)), m3'⟩
    · obtain ⟨ju, jv, _⟩ := (gok j (by omega)).lt
      obtain ⟨p1, p2⟩ := hj j (by omega)
      have keep0 : ∀ x, x < n → 0 ≤ W.getD x 0 → 0 ≤ W2.getD x 0 := fun x hx q => keep x hx (by rw [m1 x hx q]; exact q)
      exact ⟨fun q => keep0 _ jv (p1 (m2 _ ju (m2' _ ju q))), fun q => keep0 _ ju (p2 (m2 _ jv (m2' _ jv q)))⟩

end Go.Hx
