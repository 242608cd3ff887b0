/- The document's disjoint sets, over the abstract heap. No condition. -/
import Derived.Test.YtepochkdpllmkaaHxDsuE
namespace Go.Hx

structure RO where
  a : Nat
  p : Sl
  lo : Nat
  hi : Nat

structure RS (h : Hp) (o : RO) (L : List Nat) : Prop where
  n : L.length ≤ 65536
  hd : h.blk o.a = some (.cells [.bool true, .slice o.p.a o.p.n o.p.c])
  lp : Lst h 1 o.p (ints (nats L)) o.lo
  alo : o.lo ≤ o.a
  ahi : o.a < o.hi
  hi : o.hi ≤ h.size
  php : ∀ x, o.p.a = some x → x.block < o.hi
  ap : nb o.p o.a

namespace RS
variable {h h' : Hp} {o : RO} {L : List Nat}
theorem keep (d : RS h o L) (hz : h.size ≤ h'.size) (hb : ∀ c, o.lo ≤ c → c < o.hi → h'.blk c = h.blk c) : RS h' o L :=
  { d with
    hd := by rw [hb _ d.alo d.ahi]; exact d.hd
    lp := d.lp.keep hz fun x hx => hb _ (d.lp.blk_lt hx).1 (d.php x hx)
    hi := Nat.le_trans d.hi hz }
theorem fr (d : RS h o L) (f : Fr h.size h h') : RS h' o L := d.keep f.size fun c _ hc => f.blk c (by have := d.hi; omega)
theorem other {lo hi : Nat} (d : RS h o L) (f : FrI lo hi h h') (hs : o.hi ≤ lo ∨ hi ≤ o.lo) : RS h' o L := d.keep f.size fun c h1 h2 => f.blk c (by have := d.hi; omega) (by omega)
theorem c0 (d : RS h o L) : h.cell ⟨o.a, 0, none⟩ = some (.bool true) := by rw [cell_own d.hd]; rfl
theorem c1 (d : RS h o L) : h.cell ⟨o.a, 1, none⟩ = some (.slice o.p.a o.p.n o.p.c) := by rw [cell_own d.hd]; rfl
theorem np (d : RS h o L) : o.p.n = L.length := by have := d.lp.1; rw [ints_len, nats_len] at this; omega
end RS

variable {h : Hp} {o : RO} {L : List Nat}

theorem valid08 (d : RS h o L) (K : Bool → Hp → Prop) (hK : K true h) : g_ref08_Sets_valid (some ⟨o.a, 0, none⟩) h K := by
  unfold g_ref08_Sets_valid
  refine cnd_t rfl (nn_of ?_)
  rw [add_mk]
  exact ldB_of d.c0 hK

theorem has08 (d : RS h o L) (a : Int) (K : Bool → Hp → Prop) (hy : 0 ≤ a → a < L.length → K true h) (hn : ¬ (0 ≤ a ∧ a < L.length) → K false h) : g_ref08_Sets_has (some ⟨o.a, 0, none⟩) a h K := by
  unfold g_ref08_Sets_has
  refine valid08 d _ (cnd_t rfl (cnd_of (fun c => nn_of ?_) fun c => ?_))
  · simp only [decide_eq_true_eq] at c
    rw [add_mk]
    refine ldS_of d.c1 ?_
    simp only [d.np, Int.ofNat_eq_natCast]
    by_cases g : a < L.length
    · rw [decide_eq_true g]; exact hy c g
    · rw [decide_eq_false g]; exact hn fun k => g k.2
  · simp only [decide_eq_false_iff_not] at c
    exact hn fun k => c k.1

/-- Reading a label. -/
theorem lab08 (d : RS h o L) {a : Int} (ha : 0 ≤ a ∧ a < L.length) {K : Int → Prop} (hK : K (gt L a.toNat : Nat)) :
    nn (some ⟨o.a, 0, none⟩) fun a5 => ldS h (a5.add 1) fun s6 => ix s6.a s6.n a fun a7 => ldI .i64 h (a7.add (Int.toNat a * 1)) K := by
  refine nn_of ?_
  rw [add_mk]
  refine ldS_of d.c1 (ix_ld1 d.lp.rd ha.1 (by rw [d.np]; exact ha.2) rfl ?_)
  rw [nats_getD]; exact hK

theorem Least08 (d : RS h o L) (a : Int) (K : Int → Int → Hp → Prop) (hK : K (leastV L a).1 (leastV L a).2 h) : g_ref08_Sets_Least (some ⟨o.a, 0, none⟩) a h K := by
  unfold g_ref08_Sets_Least
  refine valid08 d _ (cnd_f rfl (has08 d a _ (fun a0 a1 => cnd_f rfl (lab08 d ⟨a0, a1⟩ ?_)) fun hn => cnd_t rfl ?_))
  · rw [leastV, if_pos ⟨a0, a1⟩] at hK; exact hK
  · rw [leastV, if_neg hn] at hK; exact hK

theorem Same08 (d : RS h o L) (a b : Int) (K : Bool → Hp → Prop) (hK : K (sameV L a b) h) : g_ref08_Sets_Same (some ⟨o.a, 0, none⟩) a b h K := by
  have bad : ¬ (0 ≤ a ∧ a < L.length ∧ 0 ≤ b ∧ b < L.length) → K false h := fun hb => by
    rwa [sameV, decide_eq_false (fun k => hb ⟨k.1, k.2.1, k.2.2.1, k.2.2.2.1⟩)] at hK
  unfold g_ref08_Sets_Same
  refine has08 d a _ (fun a0 a1 => cnd_t rfl (has08 d b _ (fun b0 b1 => cnd_t rfl (lab08 d ⟨a0, a1⟩ (lab08 d ⟨b0, b1⟩ ?_))) fun hn => cnd_f rfl (bad (by omega)))) fun hn => cnd_f rfl (bad (by omega))
  have e : (((gt L a.toNat : Nat) : Int) == ((gt L b.toNat : Nat) : Int)) = sameV L a b := by
    rw [sameV, Bool.eq_iff_iff, beq_iff_eq, decide_eq_true_eq]
    exact ⟨fun k => ⟨a0, a1, b0, b1, Int.ofNat.inj k⟩, fun k => congrArg Int.ofNat k.2.2.2.2⟩
  rw [e]; exact hK

theorem Size08 (d : RS h o L) (a : Int) (K : Int → Hp → Prop) (hK : K (sizeV L a) h) : g_ref08_Sets_Size (some ⟨o.a, 0, none⟩) a h K := by
  have hn := d.n
  unfold g_ref08_Sets_Size
  refine has08 d a _ (fun a0 a1 => cnd_t rfl ?_) fun hn => cnd_f rfl (by rw [sizeV, if_neg hn] at hK; exact hK)
  rw [sizeV, if_pos ⟨a0, a1⟩] at hK
  refine for_of L.length (fun i t H => t.2.1 = (i : Int) ∧ t.1 = ((cntB i fun k => gt L k == gt L a.toNat : Nat) : Int) ∧ H = h) ?_ ⟨rfl, rfl, rfl⟩
  rintro i K1 ⟨t1, t2, u⟩ H hi ⟨rfl, rfl, rfl⟩ hK1
  have hle := cntB_le i fun k => gt L k == gt L a.toNat
  simp only
  refine nn_of ?_
  rw [add_mk]
  refine ldS_of d.c1 (cnd_of (fun c => ?_) fun c => ?_)
  · simp only [decide_eq_true_eq, d.np, Int.ofNat_eq_natCast] at c
    refine lab08 d ⟨by omega, c⟩ (lab08 d ⟨a0, a1⟩ ?_)
    have ei : w64 ((i : Int) + 1) = ((i + 1 : Nat) : Int) := by rw [w64, w64_eq (by omega) (by omega)]; omega
    rw [show Int.toNat (i : Int) = i from rfl]
    refine cnd_of (fun e => ?_) fun e => ?_
    · simp only [beq_iff_eq] at e
      refine hK1 (by omega) _ _ ⟨ei, ?_, rfl⟩
      show w64 _ = _
      rw [cntB_succ, if_pos (by rw [beq_iff_eq]; exact Int.ofNat.inj e), w64, w64_eq (by omega) (by omega)]; rfl
    · simp only [beq_eq_false_iff_ne] at e
      refine hK1 (by omega) _ _ ⟨ei, ?_, rfl⟩
      show _ = _
      rw [cntB_succ, if_neg (by rw [beq_iff_eq]; exact fun k => e (congrArg Int.ofNat k))]; rfl
  · simp only [decide_eq_false_iff_not, d.np, Int.ofNat_eq_natCast] at c
    obtain rfl : i = L.length := by omega
    exact hK

theorem Count08 (d : RS h o L) (K : Int → Hp → Prop) (hK : K (countV L : Nat) h) : g_ref08_Sets_Count (some ⟨o.a, 0, none⟩) h K := by
  have hn := d.n
  unfold g_ref08_Sets_Count
  refine valid08 d _ (cnd_t rfl ?_)
  refine for_of L.length (fun i t H => t.2.1 = (i : Int) ∧ t.1 = ((cntB i fun k => gt L k == k : Nat) : Int) ∧ H = h) ?_ ⟨rfl, rfl, rfl⟩
  rintro i K1 ⟨t1, t2, u⟩ H hi ⟨rfl, rfl, rfl⟩ hK1
  have hle := cntB_le i fun k => gt L k == k
  simp only
  refine nn_of ?_
  rw [add_mk]
  refine ldS_of d.c1 (cnd_of (fun c => ?_) fun c => ?_)
  · simp only [decide_eq_true_eq, d.np, Int.ofNat_eq_natCast] at c
    refine lab08 d ⟨by omega, c⟩ ?_
    have ei : w64 ((i : Int) + 1) = ((i + 1 : Nat) : Int) := by rw [w64, w64_eq (by omega) (by omega)]; omega
    rw [show Int.toNat (i : Int) = i from rfl]
    refine cnd_of (fun e => ?_) fun e => ?_
    · simp only [beq_iff_eq] at e
      refine hK1 (by omega) _ _ ⟨ei, ?_, rfl⟩
      show w64 _ = _
      rw [cntB_succ, if_pos (by rw [beq_iff_eq]; exact Int.ofNat.inj e), w64, w64_eq (by omega) (by omega)]; rfl
    · simp only [beq_eq_false_iff_ne] at e
      refine hK1 (by omega) _ _ ⟨ei, ?_, rfl⟩
      show _ = _
      rw [cntB_succ, if_neg (by rw [beq_iff_eq]; exact fun k => e (congrArg Int.ofNat k))]; rfl
  · simp only [decide_eq_false_iff_not, d.np, Int.ofNat_eq_natCast] at c
    obtain rfl : i = L.length := by omega
    exact hK

theorem Len08 (d : RS h o L) (K : Int → Hp → Prop) (hK : K (L.length : Nat) h) : g_ref08_Sets_Len (some ⟨o.a, 0, none⟩) h K := by
  unfold g_ref08_Sets_Len
  refine valid08 d _ (cnd_f rfl (nn_of ?_))
  rw [add_mk]
  refine ldS_of d.c1 ?_
  rw [show Int.ofNat o.p.n = ((L.length : Nat) : Int) by rw [d.np]; rfl]; exact hK

theorem Labels08 (d : RS h o L) (K : Sl → Hp → Prop) (hK : ∀ s h', Fr h.size h h' → Lst h' 1 s (ints (nats L)) h.size → K s h') : g_ref08_Sets_Labels (some ⟨o.a, 0, none⟩) h K := by
  have hn := d.n
  have hp := d.np
  unfold g_ref08_Sets_Labels
  refine valid08 d _ (cnd_t rfl (nn_of ?_))
  rw [add_mk]
  refine ldS_of d.c1 (app_lst (Lst.nil h 1 h.size) (Nat.le_refl _) (x := ⟨o.p.a, o.p.n, o.p.c⟩) d.lp.rd.1 (ints_one _) rfl (by simp only; omega) (by simp only; omega) fun s h' hl _ _ f _ _ => hK s h' f hl)

theorem New08 (n : Int) (h : Hp) (K : Option Addr → Int → Hp → Prop) (hb : n < 0 ∨ n > 65536 → K none 2 h)
    (hg : 0 ≤ n → n ≤ 65536 → ∀ o h', RS h' o (idL n.toNat) → Fr h.size h h' → o.lo = h.size → o.hi = h'.size → K (some ⟨o.a, 0, none⟩) 0 h') : g_ref08_New n h K := by
  unfold g_ref08_New
  refine cnd_of (fun c => hb (.inl (by simpa using c))) fun c => cnd_of (fun d => hb (.inr (by simpa using d))) fun d => ?_
  simp only [decide_eq_false_iff_not] at c d
  refine alo_of fun h1 z1 b1 k1 => ?_
  refine for_of n.toNat (fun i t Hc => t.1 = (i : Int) ∧ Fr h.size h Hc ∧ h.size < Hc.size ∧ ∃ p : Sl, Hc.blk h.size = some (.cells [.bool true, .slice p.a p.n p.c]) ∧
    Lst Hc 1 p (ints (nats (idL i))) h.size ∧ nb p h.size) ?_ ⟨rfl, ⟨by omega, k1⟩, by omega, ⟨none, 0, 0⟩, b1, Lst.nil _ _ _, by simp [nb]⟩
  rintro i K1 ⟨t, u⟩ H hi ⟨rfl, fr, hsz, p, hd, lp, ap⟩ hK1
  simp only
  have np : p.n = i := by have := lp.1; rw [ints_len, nats_len] at this; simp [idL] at this; omega
  refine cnd_of (fun f => ?_) fun f => ?_
  · simp only [decide_eq_true_eq] at f
    refine nn_of ?_
    rw [add_mk]
    refine ldS_of (by rw [cell_own hd]; rfl) (app1_spec lp (by omega) (show p.n < 2 ^ 40 by omega) fun p' H1 lp1 z1 k1 => nn_of ?_)
    rw [add_mk, add_mk]
    refine stc_of ((k1 _ hsz ap).1.trans hd) (by simp) fun H2 z2 b2 k2 => ?_
    simp only [List.set_cons_zero, List.set_cons_succ, Nat.zero_add, Nat.add_zero] at b2
    have ap2 := (k1 _ hsz ap).2
    have lp2 := lp1.keep (h' := H2) (by omega) fun x hx => k2 _ fun e => ap2 x hx e.symm
    have e1 : nats (idL (i + 1)) = nats (idL i) ++ [(i : Int)] := by simp [nats, idL, List.range_succ]
    refine hK1 (by omega) _ _ ⟨?_, ⟨by omega, fun c hc => ?_⟩, by omega, p', b2, by rw [e1]; exact lp2, ap2⟩
    · show w64 ((i : Int) + 1) = ((i + 1 : Nat) : Int)
      rw [w64, w64_eq (by omega) (by omega)]; omega
    · rw [k2 c (by omega), (k1 c (by omega) fun x hx => by have := (lp.blk_lt hx).1; omega).1, fr.blk c hc]
  · simp only [decide_eq_false_iff_not] at f
    obtain rfl : i = n.toNat := by omega
    exact hg (by omega) (by omega) ⟨h.size, p, h.size, H.size⟩ H { n := by simp [idL]; omega, hd := hd, lp := lp, alo := Nat.le_refl _, ahi := hsz, hi := Nat.le_refl _, php := fun x hx => (lp.blk_lt hx).2.1, ap := ap } fr rfl rfl

/-- The labels of the first i elements are merged. -/
def partM (L : List Nat) (x y i : Nat) : List Nat := (mergeL L x y).take i ++ L.drop i

theorem partM_len (L : List Nat) (x y i : Nat) (hi : i ≤ L.length) : (partM L x y i).length = L.length := by simp [partM, mergeL_len]; omega

theorem partM_gt (L : List Nat) (x y : Nat) {i : Nat} (hi : i < L.length) : gt (partM L x y i) i = gt L i := by
  simp only [gt, List.getD, partM]
  rw [List.getElem?_append_right (by simp [mergeL_len]; omega)]
  simp only [List.length_take, mergeL_len, List.getElem?_drop]
  rw [show i + (i - min i L.length) = i by omega]

theorem partM_succ (L : List Nat) (x y : Nat) {i : Nat} (hi : i < L.length) : (partM L x y i).set i (gt (mergeL L x y) i) = partM L x y (i + 1) := by
  have hm : i < (mergeL L x y).length := by rw [mergeL_len]; exact hi
  unfold partM
  rw [List.set_append, if_neg (by simp [mergeL_len]; omega), List.length_take, Nat.min_eq_left (by omega), Nat.sub_self, List.drop_eq_getElem_cons hi]
  simp only [List.set_cons_zero]
  rw [List.take_succ_eq_append_getElem hm, List.append_assoc]
  simp [gt, List.getD, List.getElem?_eq_getElem hm]

theorem Union08 (d : RS h o L) (a b : Int) (K : Bool → Int → Hp → Prop) (hK : ∀ h', RS h' o (unionV L a b).2.2 → FrI o.lo o.hi h h' → h'.size = h.size → K (unionV L a b).1 (unionV L a b).2.1 h') :
    g_ref08_Sets_Union (some ⟨o.a, 0, none⟩) a b h K := by
  have hn := d.n
  have bad : ¬ (0 ≤ a ∧ a < L.length ∧ 0 ≤ b ∧ b < L.length) → K false 3 h := fun hb => by
    have := hK h
    rw [unionV, if_neg hb] at this
    exact this d (FrI.refl _ _ _) rfl
  unfold g_ref08_Sets_Union
  refine valid08 d _ (cnd_f rfl (has08 d a _ (fun a0 a1 => cnd_f rfl (has08 d b _ (fun b0 b1 => cnd_f rfl (lab08 d ⟨a0, a1⟩ (lab08 d ⟨b0, b1⟩ ?_))) fun hn => cnd_t rfl (bad (by omega)))) fun hn => cnd_t rfl (bad (by omega))))
  have good : 0 ≤ a ∧ a < L.length ∧ 0 ≤ b ∧ b < L.length := ⟨a0, a1, b0, b1⟩
  refine cnd_of (fun c => ?_) fun c => ?_
  · simp only [beq_iff_eq] at c
    have := hK h
    rw [unionV, if_pos good, if_pos (Int.ofNat.inj c)] at this
    exact this d (FrI.refl _ _ _) rfl
  · simp only [beq_eq_false_iff_ne] at c
    have hne : gt L a.toNat ≠ gt L b.toNat := fun k => c (congrArg Int.ofNat k)
    obtain ⟨x, hx⟩ : ∃ x, x = gt L a.toNat := ⟨_, rfl⟩
    obtain ⟨y, hy⟩ : ∃ y, y = gt L b.toNat := ⟨_, rfl⟩
    have fin := fun h' => hK h'
    rw [unionV, if_pos good, if_neg hne] at fin
    rw [← hx, ← hy] at fin ⊢
    have emax : (if ((y : Nat) : Int) > ((x : Nat) : Int) then ((y : Nat) : Int) else ((x : Nat) : Int)) = ((max x y : Nat) : Int) := by split <;> omega
    have emin : (if ((y : Nat) : Int) < ((x : Nat) : Int) then ((y : Nat) : Int) else ((x : Nat) : Int)) = ((min x y : Nat) : Int) := by split <;> omega
    rw [emax, emin]
    refine for_of L.length (fun i t H => t.1 = (i : Int) ∧ RS H o (partM L x y i) ∧ FrI o.lo o.hi h H ∧ H.size = h.size) ?_ ⟨rfl, by simpa [partM] using d, FrI.refl _ _ _, rfl⟩
    rintro i K1 ⟨t, u⟩ H hi ⟨rfl, d1, fr, hz⟩ hK1
    simp only
    have hl := partM_len L x y i hi
    have hp1 := d1.np
    rw [hl] at hp1
    refine nn_of ?_
    rw [add_mk]
    refine ldS_of d1.c1 (cnd_of (fun f => ?_) fun f => ?_)
    · simp only [decide_eq_true_eq, hp1, Int.ofNat_eq_natCast] at f
      refine lab08 d1 ⟨by omega, by rw [hl]; exact f⟩ ?_
      rw [show Int.toNat (i : Int) = i from rfl, partM_gt L x y (by omega)]
      have ei : w64 ((i : Int) + 1) = ((i + 1 : Nat) : Int) := by rw [w64, w64_eq (by omega) (by omega)]; omega
      have es := partM_succ L x y (i := i) (by omega)
      rw [mergeL_gt L x y (by omega)] at es
      refine cnd_of (fun e => nn_of ?_) fun e => ?_
      · simp only [beq_iff_eq] at e
        rw [if_pos (Int.ofNat.inj e)] at es
        rw [add_mk]
        refine ldS_of d1.c1 (ix_st1 d1.lp (by omega) (by rw [hp1]; exact f) rfl fun h2 z2 l2 k2 => ?_)
        rw [show Int.toNat (i : Int) = i from rfl, nats_set, es] at l2
        refine hK1 (by omega) _ _ ⟨ei, { d1 with n := by rw [partM_len _ _ _ _ (by omega)]; exact hn, hd := (k2 _ d1.ap).trans d1.hd, lp := l2, hi := by rw [z2]; exact d1.hi },
          fr.trans ⟨by omega, fun c _ hc => k2 c fun x hx => by have := (d1.lp.blk_lt hx).1; have := d1.php x hx; omega⟩, by omega⟩
      · simp only [beq_eq_false_iff_ne] at e
        rw [if_neg (fun k => e (congrArg Int.ofNat k))] at es
        refine hK1 (by omega) _ _ ⟨ei, ?_, fr, hz⟩
        have : (partM L x y i).set i (gt L i) = partM L x y i := by
          rw [← partM_gt L x y (i := i) (by omega)]
          have hl' : i < (partM L x y i).length := by omega
          simp [gt, List.getD, List.getElem?_eq_getElem hl']
        rw [← es, this]; exact d1
    · simp only [decide_eq_false_iff_not, hp1, Int.ofNat_eq_natCast] at f
      obtain rfl : i = L.length := by omega
      refine fin _ ?_ fr hz
      have : partM L x y L.length = mergeL L x y := by unfold partM; rw [← mergeL_len L x y, List.take_length, mergeL_len, List.drop_length, List.append_nil]
      rw [← this]; exact d1

/-- The members of the set of a least element. -/
def groupL (L : List Nat) (i n : Nat) : List Nat := (List.range n).filter fun k => gt L k == i
def groupsL (L : List Nat) (n : Nat) : List (List Nat) := ((List.range n).filter fun i => gt L i == i).map fun i => groupL L i L.length

theorem groupL_succ (L : List Nat) (i n : Nat) : groupL L i (n + 1) = groupL L i n ++ if gt L n = i then [n] else [] := by
  unfold groupL
  rw [List.range_succ, List.filter_append]
  congr 1
  by_cases h : gt L n = i
  · rw [if_pos h, List.filter_cons_of_pos (by rw [beq_iff_eq]; exact h)]; rfl
  · rw [if_neg h, List.filter_cons_of_neg (by rw [beq_iff_eq]; exact h)]; rfl

theorem groupsL_succ (L : List Nat) (n : Nat) : groupsL L (n + 1) = groupsL L n ++ if gt L n = n then [groupL L n L.length] else [] := by
  unfold groupsL
  rw [List.range_succ, List.filter_append, List.map_append]
  congr 1
  by_cases h : gt L n = n
  · rw [if_pos h, List.filter_cons_of_pos (by rw [beq_iff_eq]; exact h)]; rfl
  · rw [if_neg h, List.filter_cons_of_neg (by rw [beq_iff_eq]; exact h)]; rfl

theorem groupL_le (L : List Nat) (i n : Nat) : (groupL L i n).length ≤ n := by
  have := List.length_filter_le (fun k => gt L k == i) (List.range n)
  simpa [groupL] using this

theorem groupsL_le (L : List Nat) (n : Nat) : (groupsL L n).length ≤ n := by
  have := List.length_filter_le (fun k => gt L k == k) (List.range n)
  simpa [groupsL] using this

theorem groupL_low {L : List Nat} (d : LInv L) {i : Nat} (hi : i < L.length) : groupL L i i = [] := by
  unfold groupL
  rw [List.filter_eq_nil_iff]
  intro k hk
  have hk := List.mem_range.1 hk
  have := d.le k (by omega)
  simp only [beq_iff_eq]; omega

theorem Groups08 (d : RS h o L) (hinv : LInv L) (K : Sl → Hp → Prop) (hK : ∀ s h', Fr h.size h h' → Grp h' s (groupsL L L.length) → K s h') : g_ref08_Sets_Groups (some ⟨o.a, 0, none⟩) h K := by
  have hn := d.n
  unfold g_ref08_Sets_Groups
  refine valid08 d _ (cnd_t rfl ?_)
  refine for_of L.length (fun i t H => t.2.1 = (i : Int) ∧ Fr h.size h H ∧ GrpO H t.1 (groupsL L i) h.size) ?_ ⟨rfl, Fr.refl _ _, GrpO.nil _ _⟩
  rintro i K1 ⟨s, t, u⟩ H hi ⟨rfl, fr, hg⟩ hK1
  simp only
  have d1 := d.fr fr
  have hgl := groupsL_le L i
  have hsn : s.n = (groupsL L i).length := hg.len
  refine nn_of ?_
  rw [add_mk]
  refine ldS_of d1.c1 (cnd_of (fun f => ?_) fun f => ?_)
  · simp only [decide_eq_true_eq, d1.np, Int.ofNat_eq_natCast] at f
    have ei : w64 ((i : Int) + 1) = ((i + 1 : Nat) : Int) := by rw [w64, w64_eq (by omega) (by omega)]; omega
    refine lab08 d1 ⟨by omega, f⟩ ?_
    rw [show Int.toNat (i : Int) = i from rfl]
    refine cnd_of (fun e => ?_) fun e => ?_
    · simp only [bne_iff_ne] at e
      refine hK1 (by omega) _ _ ⟨ei, fr, ?_⟩
      rw [groupsL_succ, if_neg (fun k => e (congrArg Int.ofNat k)), List.append_nil]; exact hg
    · simp only [bne_eq_false_iff_eq] at e
      have e : gt L i = i := Int.ofNat.inj e
      unfold jn
      refine for_of (L.length - i) (fun j t H2 => t.2.1 = ((i + j : Nat) : Int) ∧ Fr H.size H H2 ∧ Lst H2 1 t.1 (ints (nats (groupL L i (i + j)))) H.size) ?_ ⟨rfl, Fr.refl _ _, by rw [Nat.add_zero, groupL_low hinv (by omega)]; exact Lst.nil _ _ _⟩
      rintro j K2 ⟨s2, t2, u2⟩ H2 hj ⟨rfl, fr2, l2⟩ hK2
      simp only
      have fr' := fr.trans (fr2.mono fr.size)
      have d2 := d.fr fr'
      have hs2 : s2.n = (groupL L i (i + j)).length := by have := l2.1; rw [ints_len, nats_len] at this; simp only at this; omega
      have hs2' := groupL_le L i (i + j)
      refine nn_of ?_
      rw [add_mk]
      refine ldS_of d2.c1 (cnd_of (fun g => ?_) fun g => ?_)
      · simp only [decide_eq_true_eq, d2.np, Int.ofNat_eq_natCast] at g
        have ej : w64 (((i + j : Nat) : Int) + 1) = ((i + (j + 1) : Nat) : Int) := by rw [w64, w64_eq (by omega) (by omega)]; omega
        refine lab08 d2 ⟨by omega, g⟩ ?_
        rw [show Int.toNat ((i + j : Nat) : Int) = i + j from rfl]
        refine cnd_of (fun q => ?_) fun q => ?_
        · simp only [beq_iff_eq] at q
          refine app1_spec l2 fr2.size (show s2.n < 2 ^ 40 by omega) fun s3 H3 l3 z3 k3 => ?_
          refine hK2 (by omega) _ _ ⟨ej, fr2.trans ⟨z3, fun c hc => (k3 c (by have := fr2.size; omega) fun x hx => by have := (l2.blk_lt hx).1; omega).1⟩, ?_⟩
          rw [← Nat.add_assoc, groupL_succ, if_pos (Int.ofNat.inj q), nats_app]; exact l3
        · simp only [beq_eq_false_iff_ne] at q
          refine hK2 (by omega) _ _ ⟨ej, fr2, ?_⟩
          rw [← Nat.add_assoc, groupL_succ, if_neg (fun k => q (congrArg Int.ofNat k)), List.append_nil]; exact l2
      · simp only [decide_eq_false_iff_not, d2.np, Int.ofNat_eq_natCast] at g
        have hij : i + j = L.length := by omega
        rw [hij] at l2
        have hs := fr.size
        have hb : ∀ x, s.a = some x → x.block < H.size := fun x hx => by
          obtain ⟨ss, hl, -⟩ := hg
          exact (hl.blk_lt hx).2.1
        refine GrpO.app (hg.fr fr2) (by have := fr2.size; omega) (l2.le hs) (fun x hx y hy => by have := (l2.blk_lt hx).1; have := hb y hy; omega) (show s.n < 2 ^ 40 by omega) fun s3 H3 g3 z3 k3 => ?_
        refine hK1 (by omega) _ _ ⟨ei, fr'.trans ⟨z3, fun c hc => (k3 c (by have := fr'.size; omega) fun x hx => by
          obtain ⟨ss, hl, -⟩ := hg
          have := (hl.blk_lt hx).1; omega).1⟩, ?_⟩
        rw [groupsL_succ, if_pos e]; exact g3
  · simp only [decide_eq_false_iff_not, d1.np, Int.ofNat_eq_natCast] at f
    obtain rfl : i = L.length := by omega
    exact hK _ _ fr hg.grp

theorem groups_spec {h : Hp} {a b : Sl} {G : List (List Nat)} (ga : Grp h a G) (gb : Grp h b G) (hn : G.length ≤ 65536) (hs : ∀ j, j < G.length → (G.getD j []).length ≤ 65536) (K : Bool → Hp → Prop) (hK : K true h) : g_law08_groups a b h K := by
  have la := ga.len
  have lb := gb.len
  unfold g_law08_groups
  refine cnd_f (by simp [la, lb]) ?_
  refine for_of G.length (fun i t H => t.1 = (i : Int) ∧ H = h) ?_ ⟨rfl, rfl⟩
  rintro i K1 ⟨t, u⟩ H hi ⟨rfl, rfl⟩ hK1
  simp only
  refine cnd_of (fun f => ?_) fun f => hK
  simp only [decide_eq_true_eq, Int.ofNat_eq_natCast] at f
  refine ga.ix (by omega) f fun t1 r1 => gb.ix (by omega) (by omega) fun t2 r2 => same08_spec _ _ _ _ _ _ r1 r2 ?_ (cnd_f (by simp) (hK1 (by omega) _ _ ⟨?_, rfl⟩))
  · have := r1.ilen
    rw [nats_len] at this
    have := hs i (by omega)
    rw [show Int.toNat (i : Int) = i from rfl] at *
    omega
  · show w64 ((i : Int) + 1) = ((i + 1 : Nat) : Int)
    rw [w64, w64_eq (by omega) (by omega)]; omega

end Go.Hx
