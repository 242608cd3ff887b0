/- The document's forest: the search, ways, sizes. No condition. -/
import Derived.Test.YtjpmgekdgpkcfaaHxLctRa
namespace Go.Hx
set_option linter.unusedSimpArgs false
set_option linter.unusedVariables false

/-- The document's forest in the heap. -/
structure RF (h : Hp) (A n : Nat) (L : Es) (key : Nat → Int) (k e : Sl) (B : Nat) : Prop where
  ha : h.blk A = some (.cells [.bool true, .slice k.a k.n k.c, .slice e.a e.n e.c])
  la : A < h.size
  lB : B ≤ A
  kl : ∃ KL, Lst h 1 k (ints KL) B ∧ KL.length = n ∧ ∀ v, v < n → KL.getD v 0 = key v
  el : Lst h 2 e (ints (flE L)) B
  n1 : nb k A
  n2 : nb e A
  n3 : ∀ x, k.a = some x → nb e x.block

section
variable {h : Hp} {A n : Nat} {L : Es} {key : Nat → Int} {k e : Sl} {B : Nat}

theorem RF.keep {h' : Hp} (d : RF h A n L key k e B) (hz : h.size ≤ h'.size) (h1 : h'.blk A = h.blk A) (h2 : ∀ x, k.a = some x → h'.blk x.block = h.blk x.block) (h3 : ∀ x, e.a = some x → h'.blk x.block = h.blk x.block) : RF h' A n L key k e B := by
  obtain ⟨KL, l1, l2, l3⟩ := d.kl
  exact ⟨h1.trans d.ha, by have := d.la; omega, d.lB, ⟨KL, l1.keep hz h2, l2, l3⟩, d.el.keep hz h3, d.n1, d.n2, d.n3⟩
theorem RF.kb (d : RF h A n L key k e B) {x : Addr} (hx : k.a = some x) : B ≤ x.block ∧ x.block < h.size := by
  obtain ⟨KL, l1, _⟩ := d.kl
  exact ⟨(l1.blk_lt hx).1, (l1.blk_lt hx).2.1⟩
theorem RF.eb (d : RF h A n L key k e B) {x : Addr} (hx : e.a = some x) : B ≤ x.block ∧ x.block < h.size := ⟨(d.el.blk_lt hx).1, (d.el.blk_lt hx).2.1⟩
theorem RF.fr {h' : Hp} (d : RF h A n L key k e B) (f : Fr h.size h h') : RF h' A n L key k e B :=
  d.keep f.size (f.blk _ d.la) (fun x hx => f.blk _ (d.kb hx).2) fun x hx => f.blk _ (d.eb hx).2
theorem RF.frB {a b : Nat} {h' : Hp} (d : RF h A n L key k e B) (f : FrB a b h h') (n1 : A ≠ a ∧ A ≠ b) (n2 : nb k a ∧ nb k b) (n3 : nb e a ∧ nb e b) : RF h' A n L key k e B :=
  d.keep f.size (f.blk _ d.la n1.1 n1.2) (fun x hx => f.blk _ (d.kb hx).2 (fun q => n2.1 x hx q.symm) fun q => n2.2 x hx q.symm) fun x hx => f.blk _ (d.eb hx).2 (fun q => n3.1 x hx q.symm) fun q => n3.2 x hx q.symm

theorem RF.kn (d : RF h A n L key k e B) : k.n = n := by
  obtain ⟨KL, l1, l2, _⟩ := d.kl
  have := l1.1
  rw [ints_len] at this; omega
theorem RF.en (d : RF h A n L key k e B) : e.n = L.length := by
  have := d.el.1
  rw [ints_len, flE_len] at this; omega

theorem RF.v0 (d : RF h A n L key k e B) {K : Bool → Prop} (hK : K true) : nn (some ⟨A, 0, none⟩) fun a => ldB h (a.add 0) K := by
  refine nn_of ?_
  simp only [add_mk, Nat.zero_add]
  exact ldB_of (by rw [cell_own d.ha]; rfl) hK
theorem RF.k1 (d : RF h A n L key k e B) {K : Sl → Prop} (hK : K k) : nn (some ⟨A, 0, none⟩) fun a => ldS h (a.add 1) K := by
  refine nn_of ?_
  simp only [add_mk, Nat.zero_add]
  exact ldS_of (p := k.a) (n := k.n) (c := k.c) (by rw [cell_own d.ha]; rfl) hK
theorem RF.e2 (d : RF h A n L key k e B) {K : Sl → Prop} (hK : K e) : nn (some ⟨A, 0, none⟩) fun a => ldS h (a.add 2) K := by
  refine nn_of ?_
  simp only [add_mk, Nat.zero_add]
  exact ldS_of (p := e.a) (n := e.n) (c := e.c) (by rw [cell_own d.ha]; rfl) hK

theorem RF.ed (d : RF h A n L key k e B) {i u v : Nat} (hi : L[i]? = some (u, v)) {X : Addr → Prop} (hX : ∀ x : Addr, x.spot = none → h.cell (x.add (i * 2)) = some (.int .i64 (u : Int)) → h.cell (x.add (i * 2 + 1)) = some (.int .i64 (v : Int)) → X x) : ix e.a e.n (i : Int) X := by
  have hil : i < L.length := (List.getElem?_eq_some_iff.1 hi).1
  obtain ⟨g1, g2⟩ := flE_get hi
  refine ix_rd d.el.rd (by omega) (by omega) (by rw [d.en]; omega) fun x hs hc => hX x hs ?_ ?_
  · have := hc 0 (by omega)
    simp only [Int.toNat_natCast, Nat.add_zero, g1] at this; exact this
  · have := hc 1 (by omega)
    simp only [Int.toNat_natCast, g2] at this; exact this
theorem RF.ed0 (d : RF h A n L key k e B) {i u v : Nat} (hi : L[i]? = some (u, v)) {K : Int → Prop} (hK : K u) : nn (some ⟨A, 0, none⟩) fun a => ldS h (a.add 2) fun s => ix s.a s.n (i : Int) fun x => bnd 0 2 (ldI .i64 h ((x.add (Int.toNat (i : Int) * 2)).add (Int.toNat 0 * 1)) K) := by
  refine d.e2 (K := fun s => ix s.a s.n (i : Int) fun x => bnd 0 2 (ldI .i64 h ((x.add (Int.toNat (i : Int) * 2)).add (Int.toNat 0 * 1)) K)) (d.ed hi fun x hs c0 c1 => ⟨by omega, by omega, ?_⟩)
  rw [add_add _ _ _ hs, Int.toNat_natCast]
  exact ldI_of c0 hK
theorem RF.ed1 (d : RF h A n L key k e B) {i u v : Nat} (hi : L[i]? = some (u, v)) {K : Int → Prop} (hK : K v) : nn (some ⟨A, 0, none⟩) fun a => ldS h (a.add 2) fun s => ix s.a s.n (i : Int) fun x => bnd 1 2 (ldI .i64 h ((x.add (Int.toNat (i : Int) * 2)).add (Int.toNat 1 * 1)) K) := by
  refine d.e2 (K := fun s => ix s.a s.n (i : Int) fun x => bnd 1 2 (ldI .i64 h ((x.add (Int.toNat (i : Int) * 2)).add (Int.toNat 1 * 1)) K)) (d.ed hi fun x hs c0 c1 => ⟨by omega, by omega, ?_⟩)
  rw [add_add _ _ _ hs, Int.toNat_natCast]
  exact ldI_of c1 hK

theorem rValid (d : RF h A n L key k e B) (K : Bool → Hp → Prop) (hK : K true h) : g_ref12_Forest_valid (some ⟨A, 0, none⟩) h K := by
  unfold g_ref12_Forest_valid
  exact cnd_t rfl (d.v0 (K := fun b => K b h) hK)
theorem rHas (d : RF h A n L key k e B) (v : Int) (K : Bool → Hp → Prop) (hK : ∀ x, (x = true ↔ rng n v) → K x h) : g_ref12_Forest_has (some ⟨A, 0, none⟩) v h K := by
  unfold g_ref12_Forest_has
  refine rValid d _ (cnd_t rfl (cnd_of (fun c => d.k1 (K := fun s => K (decide (v < (Int.ofNat s.n))) h) (hK _ ?_)) fun c => hK _ ?_))
  all_goals simp only [decide_eq_true_eq, decide_eq_false_iff_not, Int.ofNat_eq_natCast, d.kn, rng] at *
  · omega
  · exact ⟨fun q => (by cases q), fun q => by omega⟩

theorem zrow12 (n : Nat) : zrow [.int .i64 0] n = ints (List.replicate n 0) := by
  induction n with
  | zero => rfl
  | succ n ih => simp only [zrow, List.replicate_succ, List.flatten_cons] at *; rw [ih]; rfl

def s3c (b n : Nat) : Sl := ⟨some ⟨b, 0, none⟩, n, n⟩

set_option maxHeartbeats 2000000 in
theorem rTow_spec (d : RF h A n L key k e B) (fo : FO (eL L)) (bd : ∀ e, e ∈ L → e.1 < n ∧ e.2 < n) (hn : n ≤ 65536) (hL : L.length < 2 ^ 40) {to : Nat} (hto : to < n) (K : Sl → Hp → Prop) (hK : ∀ s h' W, Lst h' 1 s (ints W) h.size → Fr h.size h h' → TW L n to W → K s h') :
    g_ref12_Forest_Towards (some ⟨A, 0, none⟩) (to : Int) h K := by
  have kn := d.kn; have en := d.en
  unfold g_ref12_Forest_Towards
  refine d.k1 (K := fun s2 => mks 8 [.int .i64 0] (Int.ofNat s2.n) (Int.ofNat s2.n) h _) (mks_of (by simp only [Int.ofNat_eq_natCast]; omega) (Int.le_refl _) (by simp only [Int.ofNat_eq_natCast]; omega) fun h4 z4 b4 k4 => ?_)
  rw [kn] at b4 ⊢
  simp only [Int.ofNat_eq_natCast, Int.toNat_natCast] at b4 ⊢
  have f4 : Fr h.size h h4 := ⟨by omega, k4⟩
  have l4 : Lst h4 1 (s3c h.size n) (ints (List.replicate n 0)) h.size :=
    ⟨by simp [ints_len, s3c], Nat.le_refl _, .inr ⟨h.size, [], rfl, Nat.le_refl _, by omega, by rw [b4, List.append_nil, zrow12], by simp [ints_len, s3c]⟩⟩
  have s3a : (s3c h.size n).a = some ⟨h.size, 0, none⟩ := rfl
  have s3n : (s3c h.size n).n = n := rfl
  have out3 : ∀ {g g' : Hp}, Fr h.size h g → g'.size = g.size → (∀ c, (∀ x, (s3c h.size n).a = some x → c ≠ x.block) → g'.blk c = g.blk c) → Fr h.size h g' := fun f hz hk => ⟨by have := f.size; omega, fun c hc => by rw [hk c (fun x hx => by rw [s3a] at hx; cases hx; simp only; omega), f.blk c hc]⟩
  show jn _ _
  refine jn_of (fun _ g => ∃ W, Lst g 1 (s3c h.size n) (ints W) h.size ∧ W.length = n ∧ Fr h.size h g ∧ ∀ j, j < n → W.getD j 0 = -1) ?_ fun K7 hK7 => ?_
  rotate_left
  · refine for_of n (fun i (st : Int × Unit) g => st.1 = (i : Int) ∧ ∃ W, Lst g 1 (s3c h.size n) (ints W) h.size ∧ W.length = n ∧ Fr h.size h g ∧ ∀ j, j < i → W.getD j 0 = -1) ?_ ⟨rfl, _, l4, by simp, f4, fun j hj => by omega⟩
    rintro i Kr ⟨st, _⟩ g hi ⟨rfl, W, lw, wl, fg, hW⟩ hKr
    refine cnd_of (fun c => ?_) fun c => ?_
    · simp only [decide_eq_true_eq] at c
      have hin : i < n := by omega
      refine ix_st1 lw (by omega) (by rw [s3n]; omega) rfl fun g' z' l' k' => hKr hin _ _ ⟨?_, _, l', by rw [List.length_set]; exact wl, out3 fg z' k', fun j hj => ?_⟩
      · simp only; rw [w64, w64_eq (by omega) (by omega)]; omega
      · rw [Int.toNat_natCast, set_getD (by omega)]
        by_cases q : j = i
        · rw [if_pos q]
        · rw [if_neg q]; exact hW j (by omega)
    · simp only [decide_eq_false_iff_not] at c
      obtain rfl : i = n := by omega
      exact hK7 _ _ ⟨W, lw, wl, fg, hW⟩
  rintro ⟨⟩ h6 ⟨W, l6, wl, f6, hW⟩
  refine ix_st1 l6 (by omega) (by rw [s3n]; omega) rfl fun h9 z9 l9 k9 => ?_
  have f9 := out3 f6 z9 k9
  rw [Int.toNat_natCast] at l9
  refine alo_of fun h11 z11 b11 k11 => ?_
  have f11 : Fr h.size h h11 := ⟨by have := f9.size; omega, fun c hc => by rw [k11 c (by have := f9.size; omega), f9.blk c hc]⟩
  have q11 : Lsq h11 ⟨some ⟨h9.size, 0, none⟩, 1, 1⟩ (ints (nats [to])) h.size := Lsq.one b11 f9.size (by omega)
  have l11 : Lst h11 1 (s3c h.size n) (ints (W.set to (to : Int))) h.size := l9.keep (by omega) fun x hx => k11 _ (l9.blk_lt hx).2.1
  have g1 : ∀ j, (W.set to (to : Int)).getD j 0 = if j = to then (to : Int) else W.getD j 0 := fun j => set_getD (by omega)
  have t11 : TQ L n to (W.set to (to : Int)) [to] (fun _ => False) := by
    refine ⟨by rw [List.length_set]; exact wl, fun w hw => ?_, by rw [g1, if_pos rfl]; omega, ⟨fun _ => 0, fun w hw h0 hne => ?_⟩, fun v hv => ?_, fun w hw h0 hq => ?_⟩
    · rw [g1]
      by_cases q : w = to
      · rw [if_pos q]; omega
      · rw [if_neg q, hW w hw]; omega
    · rw [g1, if_neg hne, hW w hw] at h0; omega
    · simp only [List.mem_singleton] at hv
      subst hv
      exact ⟨hto, by rw [g1, if_pos rfl]; omega⟩
    · simp only [List.mem_singleton] at hq
      rw [g1, if_neg hq, hW w hw] at h0; omega
  have ne3 : nb (⟨some ⟨h9.size, 0, none⟩, 1, 1⟩ : Sl) h.size := fun x hx => by cases hx; have := (l9.blk_lt s3a).2.1; simp only at this ⊢; omega
  have m0 : nneg (W.set to (to : Int)) ≤ n := by
    have : nneg (W.set to (to : Int)) ≤ (W.set to (to : Int)).length := List.countP_le_length
    rw [List.length_set] at this; omega
  refine loop_of (fun m (st : Sl × Unit) g => ∃ W Q, Lst g 1 (s3c h.size n) (ints W) h.size ∧ Lsq g st.1 (ints (nats Q)) h.size ∧ nb st.1 h.size ∧ Fr h.size h g ∧ TQ L n to W Q (fun _ => False) ∧ Q.length + nneg W ≤ m ∧ m ≤ n + 1) ?_ (n := n + 1) ⟨_, _, l11, q11, ne3, f11, t11, by simp; omega, Nat.le_refl _⟩
  rintro m Kr ⟨st, _⟩ g ⟨W, Q, lw, lq, nq, fg, tq, hm, hmn⟩ hKr
  simp only at lq nq
  have qn := lq.n
  rw [ints_len, nats_len] at qn
  refine cnd_of (fun c => ?_) fun c => ?_
  rotate_left
  · simp only [decide_eq_false_iff_not, Int.ofNat_eq_natCast] at c
    have : Q = [] := List.eq_nil_of_length_eq_zero (by omega)
    subst this
    exact hK _ _ W lw fg (tq.fin hto bd)
  simp only [decide_eq_true_eq, Int.ofNat_eq_natCast] at c
  cases Q with
  | nil => simp at qn; omega
  | cons v Q =>
  obtain ⟨hv, hWv⟩ := tq.q v (by simp)
  refine Lsq.hd (x := (v : Int)) (cs := ints (nats Q)) lq ?_
  have ql := lq.le
  refine ⟨by omega, by simp only [Int.ofNat_eq_natCast]; omega, by simp only [Int.ofNat_eq_natCast]; omega, Int.le_refl _, ?_⟩
  have lq1 := Lsq.pop (x := .int .i64 (v : Int)) (cs := ints (nats Q)) lq
  have nq1 : nb (⟨(if (Int.ofNat st.c) = 1 then st.a else Option.map (fun q => q.add (Int.toNat 1 * 1)) st.a), (Int.toNat ((Int.ofNat st.n) - 1)), (Int.toNat ((Int.ofNat st.c) - 1))⟩ : Sl) h.size := fun x hx => by
    obtain ⟨_, _, b, pre, sp, ha, hb, _⟩ := lq
    simp only [ha] at hx
    have := nq _ ha
    split at hx
    · cases hx; exact this
    · simp only [Option.map_some, add_mk] at hx; cases hx; exact this
  have tq1 : TQ L n to W Q (fun w => w = v) := ⟨tq.len, tq.low, tq.at0, tq.nxt, fun w hw => tq.q w (by simp [hw]), fun w hw h0 hq ho z e => tq.cl w hw h0 (by simp only [List.mem_cons, not_or]; exact ⟨ho, hq⟩) (by simp) z e⟩
  simp only [List.length_cons] at hm
  refine for_of L.length (fun i (st : Sl × Int × Unit) g => st.2.1 = (i : Int) ∧ ∃ W Q, Lst g 1 (s3c h.size n) (ints W) h.size ∧ Lsq g st.1 (ints (nats Q)) h.size ∧ nb st.1 h.size ∧ Fr h.size h g ∧ TQ L n to W Q (fun w => w = v) ∧ Q.length + nneg W + 1 ≤ m ∧ 0 ≤ W.getD v 0 ∧ ∀ j, j < i → ∀ z, edAt L j v z → 0 ≤ W.getD z 0) ?_ ⟨rfl, W, Q, lw, lq1, nq1, fg, tq1, by omega, hWv, fun j hj => by omega⟩
  clear lq1 nq1 tq1 lw lq nq fg tq hm hWv
  rintro i Kx ⟨st, si, _⟩ g hi ⟨rfl, W, Q, lw, lq, nq, fg, tq, hm, hWv, hj⟩ hKx
  simp only at lq nq
  have dg := d.fr fg
  refine dg.e2 (K := fun s21 => cnd (decide ((i : Int) < (Int.ofNat s21.n))) _ _) (cnd_of (fun c2 => ?_) fun c2 => ?_)
  rotate_left
  · simp only [decide_eq_false_iff_not, Int.ofNat_eq_natCast, en] at c2
    obtain rfl : i = L.length := by omega
    obtain ⟨m', rfl⟩ : ∃ m', m = m' + 1 := ⟨m - 1, by omega⟩
    refine hKr m' rfl _ _ ⟨W, Q, lw, lq, nq, fg, ⟨tq.len, tq.low, tq.at0, tq.nxt, tq.q, fun w hw h0 hq _ z ez => ?_⟩, by omega, by omega⟩
    by_cases q : w = v
    · subst q
      obtain ⟨j, hje⟩ := eL_edAt.1 ez
      refine hj j ?_ z hje
      rcases hje with g | g <;> exact (List.getElem?_eq_some_iff.1 g).1
    · exact tq.cl w hw h0 hq q z ez
  simp only [decide_eq_true_eq, Int.ofNat_eq_natCast, en] at c2
  have hil : i < L.length := by omega
  obtain ⟨⟨p, q⟩, he⟩ : ∃ e, L[i]? = some e := ⟨_, List.getElem?_eq_getElem hil⟩
  have hm' : (p, q) ∈ L := List.mem_iff_getElem?.2 ⟨i, he⟩
  have hpq := bd _ hm'
  simp only at hpq
  have wk1 := wsucc (k := i) (by omega)
  refine jn_of (fun (s : Int × Unit) g' => g' = g ∧ s.1 = if p = v then (q : Int) else -1) ?_ fun K24 hK24 => ?_
  rotate_left
  · refine dg.ed0 he (cnd_of (fun c3 => dg.ed1 he (hK24 _ _ ⟨rfl, ?_⟩)) fun c3 => hK24 _ _ ⟨rfl, ?_⟩)
    · simp only [beq_iff_eq] at c3; rw [if_pos (by omega)]
    · simp only [beq_eq_false_iff_ne] at c3; rw [if_neg (by omega)]
  rintro ⟨o1, _⟩ g ⟨rfl, ho1⟩
  simp only at ho1
  refine jn_of (fun (s : Int × Unit) g' => g' = g ∧ s.1 = if q = v then (p : Int) else if p = v then (q : Int) else -1) ?_ fun K27 hK27 => ?_
  rotate_left
  · refine dg.ed1 he (cnd_of (fun c3 => dg.ed0 he (hK27 _ _ ⟨rfl, ?_⟩)) fun c3 => hK27 _ _ ⟨rfl, ?_⟩)
    · simp only [beq_iff_eq] at c3; rw [if_pos (by omega)]
    · simp only [beq_eq_false_iff_ne] at c3; rw [if_neg (by omega)]; exact ho1
  rintro ⟨o2, _⟩ g ⟨rfl, ho2⟩
  simp only at ho2
  -- the other end, if v is one
  have ends : ∀ z, edAt L i v z → (o2 = (z : Int)) ∨ z = v := fun z hz => by
    rcases hz with g | g <;> rw [he] at g <;> simp only [Option.some.injEq, Prod.mk.injEq] at g <;> obtain ⟨rfl, rfl⟩ := g
    · by_cases e : q = p
      · exact .inr e
      · left; rw [ho2, if_neg e, if_pos rfl]
    · left; rw [ho2, if_pos rfl]
  refine cnd_of (fun c3 => ?_) fun c3 => hKx hil _ _ ⟨wk1, W, Q, lw, lq, nq, fg, tq, hm, hWv, fun j hji z hz => ?_⟩
  rotate_left
  · simp only [decide_eq_false_iff_not] at c3
    by_cases e : j = i
    · subst e
      rcases ends z hz with h1 | rfl
      · omega
      · exact hWv
    · exact hj j (by omega) z hz
  simp only [decide_eq_true_eq] at c3
  obtain ⟨z, hz, hzn, hez⟩ : ∃ z : Nat, o2 = (z : Int) ∧ z < n ∧ eL L v z := by
    by_cases e1 : q = v
    · subst e1; exact ⟨p, by rw [ho2, if_pos rfl], hpq.1, .inr hm'⟩
    · by_cases e2 : p = v
      · subst e2; exact ⟨q, by rw [ho2, if_neg e1, if_pos rfl], hpq.2, .inl hm'⟩
      · rw [ho2, if_neg e1, if_neg e2] at c3; omega
  subst hz
  have zl : z < W.length := by rw [tq.len]; exact hzn
  refine ix_ld1 lw.rd (by omega) (by rw [s3n]; omega) rfl ?_
  rw [Int.toNat_natCast]
  refine cnd_of (fun c4 => ?_) fun c4 => hKx hil _ _ ⟨wk1, W, Q, lw, lq, nq, fg, tq, hm, hWv, fun j hji y hy => ?_⟩
  rotate_left
  · simp only [decide_eq_false_iff_not] at c4
    by_cases e : j = i
    · subst e
      rcases ends y hy with h1 | rfl
      · obtain rfl : z = y := by omega
        omega
      · exact hWv
    · exact hj j (by omega) y hy
  simp only [decide_eq_true_eq] at c4
  have lqn := lq.n
  rw [ints_len, nats_len] at lqn
  refine ix_st1 lw (by omega) (by rw [s3n]; omega) rfl fun g2 z2 l2 k2 => ?_
  rw [Int.toNat_natCast] at l2
  have f2 := out3 fg z2 k2
  have lq2 : Lsq g2 st (ints (nats Q)) h.size := lq.keep (by omega) fun x hx => k2 _ fun y hy => by rw [s3a] at hy; cases hy; exact (nq x hx).symm
  refine Lsq.app1 lq2 rfl (by have := f2.size; omega) (show st.n < 2 ^ 40 by omega) fun s' g4 l4' z4' k4' => ?_
  have hs3b : h.size < g2.size := by have := (l2.blk_lt s3a).2.1; exact this
  refine hKx hil _ _ ⟨wk1, W.set z (v : Int), Q ++ [z], l2.keep z4' fun x hx => ?_, by rw [nats_app, ints_app]; exact l4', (k4' _ hs3b nq).2, ⟨by have := f2.size; omega, fun c hc => ?_⟩, tq.add hv hWv hez hzn c4, ?_, ?_, fun j hji y hy => ?_⟩
  · rw [s3a] at hx; cases hx
    exact (k4' _ hs3b nq).1
  · rw [(k4' c (by omega) fun x hx => by have := (lq2.blk_lt hx).1; omega).1, f2.blk c hc]
  · have := nneg_set zl c4 (show (0 : Int) ≤ (v : Int) by omega)
    rw [List.length_append]; simp only [List.length_cons, List.length_nil]; omega
  · rw [set_getD zl]; split <;> omega
  · rw [set_getD zl]
    split
    · omega
    · by_cases e : j = i
      · subst e
        rcases ends y hy with h1 | rfl
        · omega
        · exact hWv
      · exact hj j (by omega) y hy
end

end Go.Hx
