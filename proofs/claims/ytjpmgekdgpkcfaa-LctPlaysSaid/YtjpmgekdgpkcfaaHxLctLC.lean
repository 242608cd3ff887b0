/- Link-cut forests: the law on ways. No condition. -/
import Derived.Test.YtjpmgekdgpkcfaaHxLctLB
namespace Go.Hx
set_option linter.unusedSimpArgs false
set_option linter.unusedVariables false

theorem pthI.rev {E : Nat → Nat → Prop} (d : FO E) {n : Nat} {x y : Int} {p : List Nat} (h : pthI E n x y p) : pthI E n y x p.reverse := by
  rcases h with ⟨rfl, h2⟩ | ⟨u, v, h1, h2, h3, h4, h5⟩
  · exact .inl ⟨rfl, fun u v a b c e g => h2 v u b a e c g.symm⟩
  · exact .inr ⟨v, u, h2, h1, h4, h3, h5.rev d.sym⟩

theorem wk_get {E : Nat → Nat → Prop} {p : List Nat} (w : wk E p) {i : Nat} (hi : i + 1 < p.length) : E (p.getD i 0) (p.getD (i + 1) 0) := by
  induction p generalizing i with
  | nil => simp at hi
  | cons x r ih =>
    cases r with
    | nil => simp at hi
    | cons y r =>
      rw [wk_cons2] at w
      cases i with
      | zero => exact w.1
      | succ i =>
        have := ih w.2 (i := i) (by simp only [List.length_cons] at hi ⊢; omega)
        simpa using this

theorem rev_getD {p : List Nat} {i : Nat} (hi : i < p.length) : p.reverse.getD (p.length - 1 - i) 0 = p.getD i 0 := by
  simp only [List.getD]
  rw [List.getElem?_reverse (by omega), show p.length - 1 - (p.length - 1 - i) = i by omega]

theorem getD_mem' {p : List Nat} {i : Nat} (hi : i < p.length) : p.getD i 0 ∈ p := by
  simp [List.getD, List.getElem?_eq_getElem hi]

theorem nodup_getD {p : List Nat} (nd : p.Nodup) {i j : Nat} (hi : i < p.length) (hj : j < p.length) (h : p.getD i 0 = p.getD j 0) : i = j := by
  simp only [List.getD, List.getElem?_eq_getElem hi, List.getElem?_eq_getElem hj, Option.getD_some] at h
  rw [List.Nodup, List.pairwise_iff_getElem] at nd
  rcases Nat.lt_trichotomy i j with g | g | g
  · exact absurd h (nd i j hi hj g)
  · exact g
  · exact absurd h.symm (nd j i hj hi g)

theorem wlen {k : Nat} (hk : k < 2 ^ 40) : w64 ((Int.ofNat k) - 1) = (k : Int) - 1 := by
  simp only [Int.ofNat_eq_natCast]; rw [w64, w64_eq (by omega) (by omega)]
theorem wsucc {k : Nat} (hk : k < 2 ^ 40) : w64 ((k : Int) + 1) = ((k + 1 : Nat) : Int) := by
  rw [w64, w64_eq (by omega) (by omega)]; omega

set_option maxHeartbeats 1000000 in
theorem g_law12_LctPaths_true (x : Int) (l : Sl) (va vb : Int) (h : Hp) (K : Bool → Hp → Prop) (_ : -9223372036854775808 ≤ x ∧ x ≤ 9223372036854775807) {M : List Int} (hM : Rd h 2 l (ints M)) (hy : l.n ≤ 2 ^ 63 - 1)
    (_ : ∀ x ∈ M, -9223372036854775808 ≤ x ∧ x ≤ 9223372036854775807) (_ : -9223372036854775808 ≤ va ∧ va ≤ 9223372036854775807) (_ : -9223372036854775808 ≤ vb ∧ vb ≤ 9223372036854775807) (hK : ∀ h', K true h') : g_law12_LctPaths x l va vb h K := by
  unfold g_law12_LctPaths
  refine small12_spec _ _ _ _ fun r1 e1 => cnd_of (fun _ => works_spec _ _ fun h' _ => hK h') fun q => ?_
  obtain ⟨⟨q1, q2⟩, q3⟩ := e1.1 (by simpa using q)
  obtain ⟨n, rfl⟩ : ∃ n : Nat, x = n := ⟨x.toNat, by omega⟩
  refine grown_spec n (by omega) hM q3 (fun _ _ => True) trivial (fun _ _ _ _ _ _ _ _ _ => trivial) _ fun h7 a b L s d f7 ha hb ls na nbb hL _ => cnd_f rfl ?_
  have fo := d.fo
  have bd := d.bd
  have sn := ls.1
  rw [ints_len, flE_len] at sn
  refine T_path d _ _ _ fun s1 h9 p d9 f9 l9 hp => T_path d9 _ _ _ fun s2 h11 p' d11 f11 l11 hp' => ?_
  obtain rfl := hp'.uniq fo (hp.rev fo)
  refine T_conn d11 _ _ _ fun r12 h13 d13 f13 e13 => ?_
  have l1n := l9.1; have l2n := l11.1
  rw [ints_len, nats_len] at l1n l2n
  rw [List.length_reverse] at l2n
  obtain ⟨hple, hplt⟩ := hp.le fun u v c hu => Cn_lt bd c hu
  refine cnd_f ?_ (cnd_f ?_ ?_)
  · have : decide ((Int.ofNat s1.n) > 0) = r12 := by
      rw [Bool.eq_iff_iff, e13, ← hp.cn]
      simp only [decide_eq_true_eq, Int.ofNat_eq_natCast]
      omega
    rw [this]; simp
  · simp only [bne_eq_false_iff_eq, Int.ofNat_eq_natCast]; omega
  refine T_dist d13 _ _ _ fun h15 p2 d15 f15 e15 => ?_
  obtain rfl := e15.uniq fo hp
  have la := d.lt; 
  have l9b := d9.lt
  have hz79 := f9.size
  have nb1 : nb s1 a ∧ nb s1 b := ⟨fun y hy => by have := (l9.blk_lt hy).1; omega, fun y hy => by have := (l9.blk_lt hy).1; omega⟩
  have nb2 : nb s2 a ∧ nb s2 b := ⟨fun y hy => by have := (l11.blk_lt hy).1; omega, fun y hy => by have := (l11.blk_lt hy).1; omega⟩
  have R1 : Rd h15 1 s1 (ints (nats p2)) := (((l9.keepB f11 nb1.1 nb1.2).keepB f13 nb1.1 nb1.2).keepB f15 nb1.1 nb1.2).rd
  have R2 : Rd h15 1 s2 (ints (nats p2.reverse)) := ((l11.keepB f13 nb2.1 nb2.2).keepB f15 nb2.1 nb2.2).rd
  have RL : Rd h15 2 s (ints (flE L)) := ((((ls.keepB f9 na nbb).keepB f11 na nbb).keepB f13 na nbb).keepB f15 na nbb).rd
  have w1 : w64 ((Int.ofNat s1.n) - 1) = (p2.length : Int) - 1 := by rw [wlen (by omega)]; omega
  have w2 : w64 ((Int.ofNat s2.n) - 1) = (p2.length : Int) - 1 := by rw [wlen (by omega)]; omega
  refine cnd_f (by rw [w1]; simp) ?_
  simp only [w1, w2]
  refine jn_of (fun _ g => g = h15) ?_ fun K18 hK18 => ?_
  · rintro ⟨⟩ _ rfl
    refine cnd_of (fun _ => works_spec _ _ fun h' _ => hK h') fun c => ?_
    simp only [beq_eq_false_iff_ne, Int.ofNat_eq_natCast] at c
    rcases hp with ⟨e, _⟩ | ⟨u, v, hx, hy', hu, hv, sp⟩
    · subst e; simp at l1n; omega
    refine ix_ld1 R1 (by omega) (by omega) rfl ?_
    have g0 : (nats p2).getD (Int.toNat 0) 0 = va := by
      rw [show Int.toNat 0 = 0 from rfl, nats_getD, hx]
      have := sp.hd
      rw [List.head?_eq_getElem?] at this
      simp [List.getD, this]
    refine cnd_t (by rw [g0]; simp) (ix_ld1 R1 (by omega) (by omega) rfl ?_)
    have g1 : (nats p2).getD (Int.toNat ((p2.length : Int) - 1)) 0 = vb := by
      rw [show Int.toNat ((p2.length : Int) - 1) = p2.length - 1 by omega, nats_getD, hy']
      have := sp.ls
      rw [List.getLast?_eq_getElem?] at this
      simp [List.getD, this]
    exact cnd_t (by rw [g1]; simp) (works_spec _ _ fun h' _ => hK h')
  refine for_of p2.length (fun i (st : Int × Unit) g => st.1 = (i : Int) ∧ g = h15) ?_ ⟨rfl, rfl⟩
  rintro i Kr ⟨st, _⟩ g hi ⟨rfl, rfl⟩ hKr
  refine cnd_of (fun c => ?_) fun c => hK18 _ _ rfl
  simp only [decide_eq_true_eq, Int.ofNat_eq_natCast] at c
  have hil : i < p2.length := by omega
  obtain ⟨u0, v0, hx0, hy0, hu0, hv0, sp⟩ : ∃ u v : Nat, va = u ∧ vb = v ∧ u < n ∧ v < n ∧ SP (eL L) u v p2 := by
    rcases hp with ⟨e, _⟩ | hp
    · subst e; simp at hil
    · exact hp
  have wi : w64 (((p2.length : Int) - 1) - (i : Int)) = ((p2.length - 1 - i : Nat) : Int) := by rw [w64, w64_eq (by omega) (by omega)]; omega
  simp only [wi]
  have P : (nats p2).getD (Int.toNat (i : Int)) 0 = (p2.getD i 0 : Nat) := by rw [Int.toNat_natCast, nats_getD]
  refine ix_ld1 R1 (by omega) (by omega) rfl (ix_ld1 R2 (by omega) (by omega) rfl ?_)
  rw [P, Int.toNat_natCast, nats_getD, rev_getD hil]
  have hlt := hplt _ (getD_mem' hil)
  refine cnd_f (by simp) (ix_ld1 R1 (by omega) (by omega) rfl ?_)
  rw [P]
  refine cnd_f (by simp only [decide_eq_false_iff_not]; omega) (ix_ld1 R1 (by omega) (by omega) rfl ?_)
  rw [P]
  refine cnd_f (by simp only [decide_eq_false_iff_not]; omega) ?_
  refine jn_of (fun _ g' => g' = g) ?_ fun K40 hK40 => ?_
  rotate_left
  · -- no vertex twice
    refine for_of i (fun k (st : Int × Unit) g' => st.1 = (k : Int) ∧ g' = g) ?_ ⟨rfl, rfl⟩
    rintro k Kx ⟨st, _⟩ g' hk ⟨rfl, rfl⟩ hKx
    refine cnd_of (fun c2 => ?_) fun c2 => hK40 _ _ rfl
    simp only [decide_eq_true_eq] at c2
    refine ix_ld1 R1 (by omega) (by omega) rfl (ix_ld1 R1 (by omega) (by omega) rfl ?_)
    rw [P, Int.toNat_natCast, nats_getD]
    refine cnd_f ?_ (hKx (by omega) _ _ ⟨wsucc (by omega), rfl⟩)
    rw [beq_eq_false_iff_ne]
    intro e
    have := nodup_getD sp.nd (i := k) (j := i) (by omega) hil (by omega)
    omega
  rintro ⟨⟩ g rfl
  have wk1 := wsucc (k := i) (by omega)
  refine cnd_of (fun c2 => hKr hil _ _ ⟨wk1, rfl⟩) fun c2 => ?_
  simp only [beq_eq_false_iff_ne] at c2
  have ed := wk_get sp.wk (i := i - 1) (by omega)
  rw [show i - 1 + 1 = i by omega] at ed
  obtain ⟨e0, he0⟩ := eL_edAt.1 ed
  have he0L : e0 < L.length := by
    rcases he0 with g | g <;> exact (List.getElem?_eq_some_iff.1 g).1
  have wm : w64 ((i : Int) - 1) = ((i - 1 : Nat) : Int) := by rw [w64, w64_eq (by omega) (by omega)]; omega
  simp only [wm]
  have Pm : (nats p2).getD (Int.toNat ((i - 1 : Nat) : Int)) 0 = (p2.getD (i - 1) 0 : Nat) := by rw [Int.toNat_natCast, nats_getD]
  refine for_of L.length (fun k (st : Bool × Int × Unit) g' => st.2.1 = (k : Int) ∧ g' = g ∧ (k ≤ e0 ∨ st.1 = true)) ?_ ⟨rfl, rfl, .inl (Nat.zero_le _)⟩
  rintro k Kx ⟨fnd, st, _⟩ g' hk ⟨rfl, rfl, hf⟩ hKx
  simp only at hf
  refine cnd_of (fun c3 => ?_) fun c3 => ?_
  rotate_left
  · simp only [decide_eq_false_iff_not, Int.ofNat_eq_natCast] at c3
    have : fnd = true := hf.resolve_left (by omega)
    subst this
    exact cnd_f rfl (hKr hil _ _ ⟨wk1, rfl⟩)
  simp only [decide_eq_true_eq, Int.ofNat_eq_natCast] at c3
  have hkL : k < L.length := by omega
  have wk2 := wsucc (k := k) (by omega)
  refine cnd_of (fun c4 => hKx hkL _ _ ⟨wk2, rfl, .inr rfl⟩) fun c4 => ?_
  have hke : k ≤ e0 := hf.resolve_right (by simp only at c4; rw [c4]; simp)
  obtain ⟨⟨u, v⟩, hL⟩ : ∃ e, L[k]? = some e := ⟨_, List.getElem?_eq_getElem hkL⟩
  obtain ⟨g1, g2⟩ := flE_get hL
  have rd : ∀ (X : Addr → Prop), (∀ a : Addr, (∀ m, m < 2 → g'.cell (a.add (k * 2 + m)) = some (.int .i64 ((flE L).getD (k * 2 + m) 0))) → a.spot = none → X a) → ix s.a s.n (k : Int) X := fun X hX => ix_rd RL (by omega) (by omega) (by omega) fun a ha hc => hX a (fun m hm => by simpa using hc m hm) ha
  refine rd _ fun a1 x1 y1 => ?_
  simp only [add_add _ _ _ y1, Int.toNat_natCast]
  refine ldI_of (x1 0 (by omega)) (ldI_of (x1 1 (by omega)) (ix_ld1 R1 (by omega) (by omega) rfl (ix_ld1 R1 (by omega) (by omega) rfl ?_)))
  simp only [Nat.add_zero, g1, g2, Int.toNat_natCast, nats_getD]
  refine cnd_of (fun c5 => hKx hkL _ _ ⟨wk2, rfl, .inr rfl⟩) fun c5 => ?_
  refine rd _ fun a2 x2 y2 => ?_
  simp only [add_add _ _ _ y2, Int.toNat_natCast]
  refine ldI_of (x2 0 (by omega)) (ldI_of (x2 1 (by omega)) (ix_ld1 R1 (by omega) (by omega) rfl (ix_ld1 R1 (by omega) (by omega) rfl ?_)))
  simp only [Nat.add_zero, g1, g2, Int.toNat_natCast, nats_getD]
  refine hKx hkL _ _ ⟨wk2, rfl, ?_⟩
  by_cases e : k = e0
  · right
    subst e
    rcases he0 with g | g <;> rw [hL] at g <;> simp only [Option.some.injEq, Prod.mk.injEq] at g
    · exfalso
      rw [g.1, g.2] at c5; simp at c5
    · rw [g.1, g.2]; simp
  · left; omega

end Go.Hx
