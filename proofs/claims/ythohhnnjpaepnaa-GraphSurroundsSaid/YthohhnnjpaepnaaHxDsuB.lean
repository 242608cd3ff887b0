/- New, and what sets show, over the abstract heap. No condition. -/
import Derived.Test.YthohhnnjpaepnaaHxDsu
namespace Go.Hx
set_option linter.unusedSimpArgs false
set_option linter.unusedVariables false

theorem duNew_spec (n : Int) (h : Hp) (K : Option Addr → Int → Hp → Prop) (hb : n < 0 ∨ n > 65536 → K none 2 h)
    (hg : 0 ≤ n → n ≤ 65536 → ∀ o h', DS h' o (idL n.toNat) → Fr h.size h h' → o.lo = h.size → o.hi = h'.size → K (some ⟨o.a, 0, none⟩) 0 h') : g_dsu_New n h K := by
  unfold g_dsu_New
  refine cnd_of (fun c => hb (.inl (by simpa using c))) fun c => cnd_of (fun d => hb (.inr (by simpa using d))) fun d => ?_
  simp only [decide_eq_false_iff_not] at c d
  refine alo_of fun h1 z1 b1 k1 => ?_
  refine for_of n.toNat (fun i t Hc => t.1 = (i : Int) ∧ Fr h.size h Hc ∧ h.size < Hc.size ∧ ∃ p q r : Sl, Hc.blk h.size = some (.cells [.bool true, .slice p.a p.n p.c, .slice q.a q.n q.c, .slice r.a r.n r.c, .int .i64 n]) ∧
    Lst Hc 1 p (ints (nats (idL i))) h.size ∧ Lst Hc 1 q (ints (nats (List.replicate i 1))) h.size ∧ Lst Hc 1 r (ints (nats (idL i))) h.size ∧
    nb p h.size ∧ nb q h.size ∧ nb r h.size ∧ (∀ x, q.a = some x → nb p x.block) ∧ (∀ x, r.a = some x → nb p x.block) ∧ (∀ x, r.a = some x → nb q x.block)) ?_
    ⟨rfl, ⟨by omega, k1⟩, by omega, ⟨none, 0, 0⟩, ⟨none, 0, 0⟩, ⟨none, 0, 0⟩, b1, Lst.nil _ _ _, Lst.nil _ _ _, Lst.nil _ _ _, by simp [nb], by simp [nb], by simp [nb], by simp, by simp, by simp⟩
  rintro i K1 ⟨t, u⟩ H hi ⟨rfl, fr, hsz, p, q, r, hd, lp, lq, lr, ap, aq, ar, pq, pr, qr⟩ hK1
  simp only
  have np : p.n = i := by have := lp.1; rw [ints_len, nats_len] at this; simp [idL] at this; omega
  have nq : q.n = i := by have := lq.1; rw [ints_len, nats_len] at this; simp at this; omega
  have nr : r.n = i := by have := lr.1; rw [ints_len, nats_len] at this; simp [idL] at this; omega
  refine cnd_of (fun f => ?_) fun f => ?_
  · simp only [decide_eq_true_eq] at f
    refine nn_of ?_
    rw [add_mk]
    refine ldS_of (by rw [cell_own hd]; rfl) (app1_spec lp (by omega) (show p.n < 2 ^ 40 by omega) fun p' H1 lp1 z1 k1 => nn_of ?_)
    rw [add_mk, add_mk]
    refine stc_of ((k1 _ hsz ap).1.trans hd) (by simp) fun H2 z2 b2 k2 => ?_
    simp only [List.set_cons_zero, List.set_cons_succ, Nat.zero_add, Nat.add_zero] at b2
    have ap2 := (k1 _ hsz ap).2
    have lp2 := lp1.keep (h' := H2) (by omega) fun x hx => k2 _ fun e => ap2 x hx e.symm
    have lq2 := lq.keep (h' := H2) (by omega) fun x hx => by rw [k2 _ fun e => aq x hx e.symm, (k1 _ (lq.blk_lt hx).2.1 (pq x hx)).1]
    have lr2 := lr.keep (h' := H2) (by omega) fun x hx => by rw [k2 _ fun e => ar x hx e.symm, (k1 _ (lr.blk_lt hx).2.1 (pr x hx)).1]
    have pq2 : ∀ x, q.a = some x → nb p' x.block := fun x hx => (k1 _ (lq.blk_lt hx).2.1 (pq x hx)).2
    have pr2 : ∀ x, r.a = some x → nb p' x.block := fun x hx => (k1 _ (lr.blk_lt hx).2.1 (pr x hx)).2
    refine nn_of ?_
    rw [add_mk]
    refine ldS_of (by rw [cell_own b2]; rfl) (app1_spec lq2 (by omega) (show q.n < 2 ^ 40 by omega) fun q' H3 lq3 z3 k3 => nn_of ?_)
    rw [add_mk, add_mk]
    have hs2 : h.size < H2.size := by omega
    refine stc_of ((k3 _ hs2 aq).1.trans b2) (by simp) fun H4 z4 b4 k4 => ?_
    simp only [List.set_cons_zero, List.set_cons_succ, Nat.zero_add, Nat.add_zero] at b4
    have aq4 := (k3 _ hs2 aq).2
    have lq4 := lq3.keep (h' := H4) (by omega) fun x hx => k4 _ fun e => aq4 x hx e.symm
    have qp2 : ∀ x, p'.a = some x → nb q x.block := fun x hx y hy e => pq2 y hy x hx e.symm
    have lp4 := lp2.keep (h' := H4) (by omega) fun x hx => by rw [k4 _ fun e => ap2 x hx e.symm, (k3 _ (lp2.blk_lt hx).2.1 (qp2 x hx)).1]
    have lr4 := lr2.keep (h' := H4) (by omega) fun x hx => by rw [k4 _ fun e => ar x hx e.symm, (k3 _ (lr2.blk_lt hx).2.1 (qr x hx)).1]
    have pq4 : ∀ x, q'.a = some x → nb p' x.block := fun x hx y hy e => (k3 _ (lp2.blk_lt hy).2.1 (qp2 y hy)).2 x hx e.symm
    have qr4 : ∀ x, r.a = some x → nb q' x.block := fun x hx => (k3 _ (lr2.blk_lt hx).2.1 (qr x hx)).2
    refine nn_of ?_
    rw [add_mk]
    refine ldS_of (by rw [cell_own b4]; rfl) (app1_spec lr4 (by omega) (show r.n < 2 ^ 40 by omega) fun r' H5 lr5 z5 k5 => nn_of ?_)
    rw [add_mk, add_mk]
    have hs4 : h.size < H4.size := by omega
    refine stc_of ((k5 _ hs4 ar).1.trans b4) (by simp) fun H6 z6 b6 k6 => ?_
    simp only [List.set_cons_zero, List.set_cons_succ, Nat.zero_add, Nat.add_zero] at b6
    have ar6 := (k5 _ hs4 ar).2
    have rp4 : ∀ x, p'.a = some x → nb r x.block := fun x hx y hy e => pr2 y hy x hx e.symm
    have rq4 : ∀ x, q'.a = some x → nb r x.block := fun x hx y hy e => qr4 y hy x hx e.symm
    have lr6 := lr5.keep (h' := H6) (by omega) fun x hx => k6 _ fun e => ar6 x hx e.symm
    have lp6 := lp4.keep (h' := H6) (by omega) fun x hx => by rw [k6 _ fun e => ap2 x hx e.symm, (k5 _ (lp4.blk_lt hx).2.1 (rp4 x hx)).1]
    have lq6 := lq4.keep (h' := H6) (by omega) fun x hx => by rw [k6 _ fun e => aq4 x hx e.symm, (k5 _ (lq4.blk_lt hx).2.1 (rq4 x hx)).1]
    have pr6 : ∀ x, r'.a = some x → nb p' x.block := fun x hx y hy e => (k5 _ (lp4.blk_lt hy).2.1 (rp4 y hy)).2 x hx e.symm
    have qr6 : ∀ x, r'.a = some x → nb q' x.block := fun x hx y hy e => (k5 _ (lq4.blk_lt hy).2.1 (rq4 y hy)).2 x hx e.symm
    have e1 : nats (idL (i + 1)) = nats (idL i) ++ [(i : Int)] := by simp [nats, idL, List.range_succ]
    have e2 : nats (List.replicate (i + 1) 1) = nats (List.replicate i 1) ++ [1] := by simp [nats, List.replicate_succ']
    refine hK1 (by omega) _ _ ⟨?_, ⟨by omega, fun c hc => ?_⟩, by omega, p', q', r', b6, by rw [e1]; exact lp6, by rw [e2]; exact lq6, by rw [e1]; exact lr6, ap2, aq4, ar6, pq4, pr6, qr6⟩
    · show w64 ((i : Int) + 1) = ((i + 1 : Nat) : Int)
      rw [w64, w64_eq (by omega) (by omega)]; omega
    · have hp0 : nb p c := fun x hx => by have := (lp.blk_lt hx).1; omega
      have hq0 : nb q c := fun x hx => by have := (lq.blk_lt hx).1; omega
      have hr0 : nb r c := fun x hx => by have := (lr.blk_lt hx).1; omega
      rw [k6 c (by omega), (k5 c (by omega) hr0).1, k4 c (by omega), (k3 c (by omega) hq0).1, k2 c (by omega), (k1 c (by omega) hp0).1, fr.blk c hc]
  · simp only [decide_eq_false_iff_not] at f
    obtain rfl : i = n.toNat := by omega
    have e : n = ((n.toNat : Nat) : Int) := by omega
    refine hg (by omega) (by omega) ⟨h.size, p, q, r, h.size, H.size⟩ H ⟨idL n.toNat, List.replicate n.toNat 1, idL n.toNat, n.toNat, ?_⟩ fr rfl rfl
    exact { n := by simp [idL]; omega, inv := ⟨_, DInv.start n.toNat⟩, hd := by rw [← e]; exact hd, lp := lp, lq := lq, lr := lr, alo := Nat.le_refl _, ahi := hsz, hi := Nat.le_refl _,
            php := fun x hx => (lp.blk_lt hx).2.1, phq := fun x hx => (lq.blk_lt hx).2.1, phr := fun x hx => (lr.blk_lt hx).2.1, ap := ap, aq := aq, ar := ar, pq := pq, pr := pr, qr := qr }

/-- What sets answer of two numbers. -/
def sameV (L : List Nat) (a b : Int) : Bool := decide (0 ≤ a ∧ a < L.length ∧ 0 ≤ b ∧ b < L.length ∧ gt L a.toNat = gt L b.toNat)
def leastV (L : List Nat) (a : Int) : Int × Int := if 0 ≤ a ∧ a < L.length then ((gt L a.toNat : Nat), 0) else (0, 3)
def sizeV (L : List Nat) (a : Int) : Int := if 0 ≤ a ∧ a < L.length then ((cntB L.length fun k => gt L k == gt L a.toNat : Nat) : Int) else 0
def countV (L : List Nat) : Nat := cntB L.length fun k => gt L k == k

theorem duLen_spec {h : Hp} {o : DO} {L : List Nat} (d : DS h o L) (K : Int → Hp → Prop) (hK : K (L.length : Nat) h) : g_dsu_Sets_Len (some ⟨o.a, 0, none⟩) h K := by
  obtain ⟨par, siz, lea, cnt, d⟩ := d
  unfold g_dsu_Sets_Len
  refine cnd_f rfl (nn_of ?_)
  rw [add_mk]
  refine ldS_of d.c1 ?_
  rw [show Int.ofNat o.p.n = ((L.length : Nat) : Int) by rw [d.np]; rfl]; exact hK

theorem zrow_ints (n : Nat) : zrow [.int .i64 0] n = ints (nats (List.replicate n 0)) := by
  induction n with
  | zero => rfl
  | succ n ih => simp only [zrow, List.replicate_succ, List.flatten_cons] at *; rw [ih]; rfl

theorem duLabels_spec {h : Hp} {o : DO} {L : List Nat} (d : DS h o L) (K : Sl → Hp → Prop)
    (hK : ∀ s h', DS h' o L → FrI o.lo o.hi h h' → Lst h' 1 s (ints (nats L)) h.size → K s h') : g_dsu_Sets_Labels (some ⟨o.a, 0, none⟩) h K := by
  unfold g_dsu_Sets_Labels
  refine duLen_spec d _ (cnd_of (fun c => ?_) fun c => ?_)
  · simp only [beq_iff_eq] at c
    have : L = [] := List.eq_nil_of_length_eq_zero (by omega)
    exact hK _ _ d (FrI.refl _ _ _) (by rw [this]; exact Lst.nil _ _ _)
  · have hn := d.n
    refine mks_of (by omega) (by omega) (by omega) fun h1 z1 b1 k1 => ?_
    have f1 : Fr h.size h h1 := ⟨by omega, k1⟩
    rw [show Int.toNat ((L.length : Nat) : Int) = L.length from rfl, zrow_ints] at b1
    have L1 : Lst h1 1 ⟨some ⟨h.size, 0, none⟩, L.length, L.length⟩ (ints (nats (List.replicate L.length 0))) h.size :=
      ⟨by simp [ints_len, nats_len], Nat.le_refl _, .inr ⟨h.size, [], rfl, Nat.le_refl _, by omega, by rw [List.append_nil]; exact b1, by simp [ints_len, nats_len]⟩⟩
    refine for_of L.length (fun i t H => t.1 = (i : Int) ∧ DS H o L ∧ FrI o.lo o.hi h H ∧ Lst H 1 ⟨some ⟨h.size, 0, none⟩, L.length, L.length⟩ (ints (nats (L.take i ++ List.replicate (L.length - i) 0))) h.size) ?_
      ⟨rfl, d.fr f1, f1.frI, by simpa using L1⟩
    rintro i K1 ⟨t, u⟩ H hi ⟨rfl, d1, fr, l1⟩ hK1
    simp only
    refine cnd_of (fun f => nn_of ?_) fun f => ?_
    · simp only [decide_eq_true_eq] at f
      obtain ⟨par, siz, lea, cnt, d1⟩ := d1
      rw [add_mk]
      refine ldS_of d1.c3 (root_spec' d1 i (by omega) _ fun h2 par2 r d2 fr2 z2 hr rr lr _ => ?_)
      rw [add_mk]
      obtain ⟨rk, i2⟩ := d2.inv
      refine ⟨d2.c3, ix_ld1 d2.lr.rd (by omega) (by rw [d2.nr]; omega) rfl ?_⟩
      rw [nats_getD]
      have hhi := d.hi
      have l2 : Lst h2 1 ⟨some ⟨h.size, 0, none⟩, L.length, L.length⟩ (ints (nats (L.take i ++ List.replicate (L.length - i) 0))) h.size :=
        l1.keep (by omega) fun x hx => fr2.blk _ (l1.blk_lt hx).2.1 (.inr (by cases hx; exact hhi))
      refine ix_st1 l2 (by omega) (by simp only [Int.toNat_natCast]; omega) rfl fun h3 z3 l3 k3 => ?_
      have e : (nats (L.take i ++ List.replicate (L.length - i) 0)).set (Int.toNat (i : Int)) ((lea.getD (Int.toNat ((r : Nat) : Int)) 0 : Nat) : Int) = nats (L.take (i + 1) ++ List.replicate (L.length - (i + 1)) 0) := by
        have e1 : lea.getD (Int.toNat ((r : Nat) : Int)) 0 = L[i]'(by omega) := by
          have := i2.lea r hr rr
          rw [lr] at this
          have g : gt L (Int.toNat ((i : Nat) : Int)) = L[i]'(by omega) := by simp [gt, List.getD, List.getElem?_eq_getElem (show i < L.length by omega)]
          exact this.trans g
        rw [e1, nats_set]
        congr 1
        obtain ⟨k, hk⟩ : ∃ k, L.length - i = k + 1 := ⟨L.length - i - 1, by omega⟩
        have hlen : (L.take i).length = i := by simp; omega
        rw [hk, show L.length - (i + 1) = k by omega, List.replicate_succ, List.set_append, if_neg (by simp; omega), hlen, show Int.toNat (i : Int) - i = 0 by simp]
        simp only [List.set_cons_zero]
        rw [List.take_succ_eq_append_getElem (by omega), List.append_assoc]
        rfl
      rw [e] at l3
      have f3 : FrI o.lo o.hi h h3 := ⟨by have := fr.size; omega, fun c hc ho => by
        rw [k3 c fun x hx => by cases hx; simp only; omega, fr2.blk c (by have := fr.size; omega) ho, fr.blk c hc ho]⟩
      refine hK1 (by omega) _ _ ⟨?_, ⟨_, _, _, _, d2.keep (by omega) fun c _ hc => k3 c fun x hx => by cases hx; simp only; omega⟩, f3, l3⟩
      show w64 ((i : Int) + 1) = ((i + 1 : Nat) : Int)
      rw [w64, w64_eq (by omega) (by omega)]; omega
    · simp only [decide_eq_false_iff_not] at f
      obtain rfl : i = L.length := by omega
      exact hK _ _ d1 fr (by simpa using l1)

end Go.Hx
