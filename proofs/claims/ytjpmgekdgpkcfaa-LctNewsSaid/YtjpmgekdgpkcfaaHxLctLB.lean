/- Link-cut forests: the law on the order of links. No condition. -/
import Derived.Test.YtjpmgekdgpkcfaaHxLctGr
namespace Go.Hx
set_option linter.unusedSimpArgs false
set_option linter.unusedVariables false

theorem same12_spec {h : Hp} {s t : Sl} {p q : List Nat} (h1 : Rd h 1 s (ints (nats p))) (h2 : Rd h 1 t (ints (nats q))) (hp : p.length < 2 ^ 40) (K : Bool → Hp → Prop) (hK : ∀ b, (b = true ↔ p = q) → K b h) : g_law12_same s t h K := by
  have l1 := h1.ilen; have l2 := h2.ilen
  rw [nats_len, Nat.mul_one] at l1 l2
  unfold g_law12_same
  refine cnd_of (fun c => hK _ ⟨fun e => (by cases e), fun e => ?_⟩) fun c => ?_
  · subst e
    simp only [bne_iff_ne, ne_eq, Int.ofNat_eq_natCast] at c; omega
  have hlen : p.length = q.length := by
    simp only [bne_eq_false_iff_eq, Int.ofNat_eq_natCast] at c; omega
  refine for_of p.length (fun i (st : Int × Unit) g => st.1 = (i : Int) ∧ g = h ∧ ∀ j, j < i → p.getD j 0 = q.getD j 0) ?_ ⟨rfl, rfl, fun j hj => by omega⟩
  rintro i Kr ⟨st, _⟩ g hi ⟨rfl, rfl, hj⟩ hKr
  refine cnd_of (fun c2 => ?_) fun c2 => ?_
  · simp only [decide_eq_true_eq, Int.ofNat_eq_natCast] at c2
    refine ix_ld1 h1 (by omega) (by omega) rfl (ix_ld1 h2 (by omega) (by omega) rfl ?_)
    simp only [Int.toNat_natCast, nats_getD]
    refine cnd_of (fun c3 => hK _ ⟨fun e => (by cases e), fun e => ?_⟩) fun c3 => hKr (by omega) _ _ ⟨?_, rfl, fun j hj' => ?_⟩
    · subst e; simp at c3
    · simp only; rw [w64, w64_eq (by omega) (by omega)]; omega
    · by_cases e : j = i
      · subst e; simp only [bne_eq_false_iff_eq] at c3; omega
      · exact hj j (by omega)
  · refine hK _ ⟨fun _ => ?_, fun _ => rfl⟩
    simp only [decide_eq_false_iff_not, Int.ofNat_eq_natCast] at c2
    refine List.ext_getElem hlen fun j h3 h4 => ?_
    have := hj j (by omega)
    simpa [List.getD, List.getElem?_eq_getElem h3, List.getElem?_eq_getElem h4] using this

theorem szI.uniq {E E' : Nat → Nat → Prop} (he : ∀ p q, E p q ↔ E' p q) {n : Nat} {x r r' : Int} (h1 : szI E n x r) (h2 : szI E' n x r') : r = r' := by
  rcases h1 with ⟨g, rfl⟩ | ⟨v, M, hx, hv, nd, hM, rfl⟩
  · rcases h2 with ⟨_, rfl⟩ | ⟨v, M, hx, hv, _⟩
    · rfl
    · exact absurd ⟨by omega, by omega⟩ g
  · rcases h2 with ⟨g, _⟩ | ⟨v', M', hx', hv', nd', hM', rfl⟩
    · exact absurd ⟨by omega, by omega⟩ g
    · obtain rfl : v = v' := by omega
      have := nodup_eq nd nd' fun z => by rw [hM, hM', Cn_congr he]
      omega

theorem FO.noloop {E : Nat → Nat → Prop} (d : FO E) (u : Nat) : ¬ E u u := fun e => by
  obtain ⟨pa, ⟨dep, hd⟩, he⟩ := d
  rcases (he u u).2 e with g | g <;> exact Nat.lt_irrefl _ (hd _ _ g)

/-- Some edges of a forest do not connect what another one of it joins. -/
theorem sub_nocn {L B : Es} (d : FO (eL L)) (dB : FO (eL B)) (sub : ∀ p q, eL B p q → eL L p q) {u v : Nat} (e : eL L u v) (hn : ¬ eL B u v) : ¬ Cn (eL B) u v := fun c => by
  obtain ⟨p, hp⟩ := dB.ex c
  have huv : u ≠ v := fun q => by subst q; exact d.noloop u e
  have h1 : SP (eL L) u v p := ⟨hp.hd, hp.ls, wk_mono sub hp.wk, hp.nd⟩
  have := d.uniq h1 (SP.two e huv)
  subst this
  exact hn hp.wk.1

/-- The edges from the last one to the first, each the other way. -/
def bkE (L : Es) : Es := L.reverse.map fun e => (e.2, e.1)
theorem bkE_mem {L : Es} {p q : Nat} : (p, q) ∈ bkE L ↔ (q, p) ∈ L := by
  unfold bkE
  rw [List.mem_map]
  constructor
  · rintro ⟨⟨x, y⟩, h, e⟩
    simp only [Prod.mk.injEq] at e
    rw [← e.1, ← e.2]; simpa using h
  · intro h; exact ⟨(q, p), by simpa using h, rfl⟩
theorem bkE_eL {L : Es} (p q : Nat) : eL (bkE L) p q ↔ eL L p q := by
  unfold eL; rw [bkE_mem, bkE_mem]; exact Or.comm
theorem bkE_len (L : Es) : (bkE L).length = L.length := by simp [bkE]
theorem bkE_uq {L : Es} (u : UQ L) : UQ (bkE L) := by
  unfold UQ bkE at *
  rw [List.pairwise_map, List.pairwise_reverse]
  refine u.imp fun {a b} h => ⟨fun q => h.1 ?_, fun q => h.2 ?_⟩
  · obtain ⟨a1, a2⟩ := a; obtain ⟨b1, b2⟩ := b
    simp only [Prod.mk.injEq] at q ⊢; exact ⟨q.2.symm, q.1.symm⟩
  · obtain ⟨a1, a2⟩ := a; obtain ⟨b1, b2⟩ := b
    simp only [Prod.mk.injEq] at q ⊢; exact ⟨q.1.symm, q.2.symm⟩

theorem take_snoc {α : Type} {B : List α} {k : Nat} {e : α} (h : B[k]? = some e) : B.take (k + 1) = B.take k ++ [e] := by
  rw [List.take_add_one, h]; rfl

set_option maxHeartbeats 1000000 in
theorem g_law12_LctOrder_true (x : Int) (l : Sl) (va vb : Int) (h : Hp) (K : Bool → Hp → Prop) (_ : -9223372036854775808 ≤ x ∧ x ≤ 9223372036854775807) {M : List Int} (hM : Rd h 2 l (ints M)) (hy : l.n ≤ 2 ^ 63 - 1)
    (_ : ∀ x ∈ M, -9223372036854775808 ≤ x ∧ x ≤ 9223372036854775807) (_ : -9223372036854775808 ≤ va ∧ va ≤ 9223372036854775807) (_ : -9223372036854775808 ≤ vb ∧ vb ≤ 9223372036854775807) (hK : ∀ h', K true h') : g_law12_LctOrder x l va vb h K := by
  unfold g_law12_LctOrder
  refine small12_spec _ _ _ _ fun r1 e1 => cnd_of (fun _ => works_spec _ _ fun h' _ => hK h') fun q => ?_
  obtain ⟨⟨q1, q2⟩, q3⟩ := e1.1 (by simpa using q)
  obtain ⟨n, rfl⟩ : ∃ n : Nat, x = n := ⟨x.toNat, by omega⟩
  refine grown_spec n (by omega) hM q3 (fun _ _ => True) trivial (fun _ _ _ _ _ _ _ _ _ => trivial) _ fun h7 a b L s d f7 ha hb ls na nbb hL _ => ?_
  have fo := d.fo
  have bd := d.bd
  have uq := d.uq
  have sn := ls.1
  rw [ints_len, flE_len] at sn
  have hz7 := f7.size
  obtain ⟨la, lb, hab, _⟩ := d.lt
  -- the list the other way
  refine jn_of (fun (st : Sl × Unit) g => Fr h7.size h7 g ∧ Lst g 2 st.1 (ints (flE (bkE L))) h7.size) ?_ fun K10 hK10 => ?_
  rotate_left
  · refine for_of L.length (fun k (st : Sl × Int × Unit) g => st.2.1 = (L.length : Int) - 1 - k ∧ Fr h7.size h7 g ∧ Lst g 2 st.1 (ints (flE ((bkE L).take k))) h7.size) ?_ ⟨?_, Fr.refl _ _, Lst.nil _ _ _⟩
    · rintro k Kr ⟨t, st, _⟩ g hk ⟨rfl, fg, lt⟩ hKr
      simp only at lt
      refine cnd_of (fun c => ?_) fun c => ?_
      · simp only [decide_eq_true_eq] at c
        have hkL : k < L.length := by omega
        obtain ⟨i, hi⟩ : ∃ i : Nat, i = L.length - 1 - k := ⟨_, rfl⟩
        have hiL : i < L.length := by omega
        rw [show (L.length : Int) - 1 - (k : Int) = (i : Int) by omega]
        obtain ⟨⟨u, v⟩, he⟩ : ∃ e, L[i]? = some e := ⟨L[i], List.getElem?_eq_getElem hiL⟩
        obtain ⟨g1, g2⟩ := flE_get he
        have hB : (bkE L)[k]? = some (v, u) := by
          unfold bkE
          rw [List.getElem?_map, List.getElem?_reverse (by omega), show L.length - 1 - k = i by omega, he]; rfl
        have rd : ∀ g', Fr h7.size h7 g' → ∀ (X : Addr → Prop), (∀ a : Addr, (∀ m, m < 2 → g'.cell (a.add (i * 2 + m)) = some (.int .i64 ((flE L).getD (i * 2 + m) 0))) → a.spot = none → X a) → ix s.a s.n (i : Int) X := fun g' fg' X hX => ix_rd (ls.rd.fr fg') (by omega) (by omega) (by omega) fun a ha hc => hX a (fun m hm => by simpa using hc m hm) ha
        refine rd g fg _ fun a1 c1 s1 => ⟨by omega, by omega, ?_⟩
        simp only [add_add _ _ _ s1, Int.toNat_natCast]
        refine ldI_of (c1 1 (by omega)) (rd g fg _ fun a2 c2 s2 => ⟨by omega, by omega, ?_⟩)
        simp only [add_add _ _ _ s2, Int.toNat_natCast]
        refine ldI_of (c2 0 (by omega)) (alo_of fun g3 z3 b3 k3 => ?_)
        simp only [Nat.add_zero, g1, g2] at b3 ⊢
        have hzg := fg.size
        have fr3 : Fr g.size g g3 := ⟨by omega, k3⟩
        have ltn := lt.1
        rw [ints_len, flE_len] at ltn
        have : ((bkE L).take k).length ≤ k := by rw [List.length_take]; omega
        refine app_lst (z := 2) (lt.fr fr3).eta (by omega) (news := [.int .i64 (v : Int), .int .i64 (u : Int)]) (by rw [seg_row (row_own b3) (by simp)]; rfl) (by simp [Value.oneCell]) rfl (by simp only; omega) (by simp only; omega) fun s' g4 l4 n4 z4 f4 k4 a4 => ?_
        refine hKr hkL _ _ ⟨?_, ⟨by omega, fun c hc => by rw [f4.blk c hc, k3 c (by omega), fg.blk c hc]⟩, ?_⟩
        · simp only; rw [w64, w64_eq (by omega) (by omega)]; omega
        · rw [take_snoc hB, flE_snoc, ints_app]; exact l4
      · simp only [decide_eq_false_iff_not] at c
        obtain rfl : k = L.length := by omega
        rw [List.take_of_length_le (by rw [bkE_len]; exact Nat.le_refl _)] at lt
        exact hK10 _ _ ⟨fg, lt⟩
    · simp only [Int.ofNat_eq_natCast]; rw [w64, w64_eq (by omega) (by omega)]; omega
  rintro ⟨t, _⟩ h9 ⟨f9, lt⟩
  simp only at lt
  have tn := lt.1
  rw [ints_len, flE_len, bkE_len] at tn
  refine grown_spec n (by omega) lt.rd (by omega) (fun k L' => L' = (bkE L).take k) rfl (fun k L1 r L' hk hP fo1 _ lk => ?_) _ fun h13 a2 b2 L2 s2 d2 f13 ha2 hb2 ls2 na2 nb2 _ hP => ?_
  · subst hP
    have hkB : k < (bkE L).length := by rw [bkE_len]; omega
    obtain ⟨⟨u, v⟩, he⟩ : ∃ e, (bkE L)[k]? = some e := ⟨_, List.getElem?_eq_getElem hkB⟩
    obtain ⟨g1, g2⟩ := flE_get he
    have hm : (u, v) ∈ bkE L := List.mem_iff_getElem?.2 ⟨k, he⟩
    have hbd := bd _ (bkE_mem.1 hm)
    have eUV : eL L u v := (bkE_eL u v).1 (.inl hm)
    have huv : u ≠ v := fun q => by subst q; exact fo.noloop u eUV
    have hu2 := bkE_uq uq
    have hno : ¬ eL ((bkE L).take k) u v := by
      have hsp : bkE L = (bkE L).take k ++ (u, v) :: (bkE L).drop (k + 1) := by
        obtain ⟨hl, hg⟩ := List.getElem?_eq_some_iff.1 he
        rw [← hg]; simp
      unfold UQ at hu2
      rw [hsp, List.pairwise_append] at hu2
      rintro (g | g)
      · exact (hu2.2.2 _ g (u, v) (by simp)).1 rfl
      · exact (hu2.2.2 _ g (u, v) (by simp)).2 rfl
    have := lk_ok (u := u) (v := v) lk g1 g2 hbd.2 hbd.1 huv (sub_nocn fo fo1 (fun p q g => (bkE_eL p q).1 (g.imp (fun z => List.mem_of_mem_take z) fun z => List.mem_of_mem_take z)) eUV hno)
    rw [this.2, take_snoc he]
  have hL2 : L2 = bkE L := by rw [hP, List.take_of_length_le (by rw [bkE_len]; omega)]
  subst hL2
  have s2n := ls2.1
  rw [ints_len, flE_len, bkE_len] at s2n
  refine cnd_f rfl (cnd_f rfl (cnd_f (by simp only [bne_eq_false_iff_eq, Int.ofNat_eq_natCast]; omega) ?_))
  have hz9 := f9.size; have hz13 := f13.size
  have d13 : LT h13 a b n L (fun _ => 0) := (d.fr f9).keep hz13 (f13.blk a (by omega)) (f13.blk b (by omega))
  have ab2 : a2 ≠ a ∧ a2 ≠ b ∧ b2 ≠ a ∧ b2 ≠ b := ⟨by omega, by omega, by omega, by omega⟩
  refine T_path d13 _ _ _ fun s1 h15 p d15 f15 l15 hp => ?_
  have g15 := d2.other f15 ⟨ab2.1, ab2.2.1⟩ ⟨ab2.2.2.1, ab2.2.2.2⟩
  refine T_path g15 _ _ _ fun t1 h17 p' g17 f17 l17 hp' => ?_
  have d17 := d15.other f17 ⟨ab2.1.symm, ab2.2.2.1.symm⟩ ⟨ab2.2.1.symm, ab2.2.2.2.symm⟩
  obtain rfl := (hp'.congr bkE_eL).uniq fo hp
  have hple := (hp.le fun u v c hu => Cn_lt bd c hu).1
  have l15' : Lst h17 1 s1 (ints (nats p')) h13.size := l15.keepB f17 (fun x hx => by have := (l15.blk_lt hx).1; have := g15.lt; have := d2.lt; omega) fun x hx => by have := (l15.blk_lt hx).1; have := d2.lt; omega
  refine same12_spec l15'.rd l17.rd (by omega) _ fun r18 e18 => cnd_t (e18.2 rfl) ?_
  refine T_size d17 _ _ fun r20 h21 d21 f21 e20 => ?_
  have g21 := g17.other f21 ⟨ab2.1, ab2.2.1⟩ ⟨ab2.2.2.1, ab2.2.2.2⟩
  refine T_size g21 _ _ fun r22 h23 g23 f23 e22 => ?_
  have d23 := d21.other f23 ⟨ab2.1.symm, ab2.2.2.1.symm⟩ ⟨ab2.2.1.symm, ab2.2.2.2.symm⟩
  obtain rfl := e22.uniq bkE_eL e20
  refine cnd_t (by simp) (T_trees d23 _ (T_trees g23 _ (cnd_t (by rw [bkE_len]; simp) (works_spec _ _ fun h' _ => hK h'))))

end Go.Hx
