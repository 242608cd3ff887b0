/- What the functions of disjoint sets compute, over the abstract heap. No condition. -/
import Derived.Test.YthohhnnjpaepnaaHxDefs
import Derived.Test.YthohhnnjpaepnaaHxDsuT
namespace Go.Hx
set_option linter.unusedSimpArgs false
set_option linter.unusedVariables false

/-- Where sets lie: their block, their three lists, and the bounds of their blocks. -/
structure DO where
  a : Nat
  p : Sl
  q : Sl
  r : Sl
  lo : Nat
  hi : Nat

/-- The blocks outside some bounds are kept. -/
structure FrI (lo hi : Nat) (h h' : Hp) : Prop where
  size : h.size ≤ h'.size
  blk : ∀ c, c < h.size → (c < lo ∨ hi ≤ c) → h'.blk c = h.blk c

theorem FrI.refl (lo hi : Nat) (h : Hp) : FrI lo hi h h := ⟨Nat.le_refl _, fun _ _ _ => rfl⟩
theorem FrI.trans {lo hi : Nat} {h h' h'' : Hp} (a : FrI lo hi h h') (b : FrI lo hi h' h'') : FrI lo hi h h'' :=
  ⟨Nat.le_trans a.size b.size, fun c hc ho => (b.blk c (by have := a.size; omega) ho).trans (a.blk c hc ho)⟩
theorem Fr.frI {lo hi : Nat} {h h' : Hp} (f : Fr h.size h h') : FrI lo hi h h' := ⟨f.size, fun c hc _ => f.blk c hc⟩
theorem FrI.fr {lo hi : Nat} {h h' : Hp} {B : Nat} (f : FrI lo hi h h') (hB : B ≤ lo) (hs : B ≤ h.size) : Fr B h h' := ⟨f.size, fun c hc => f.blk c (by omega) (by omega)⟩

structure DSx (h : Hp) (o : DO) (L par siz lea : List Nat) (cnt : Nat) : Prop where
  n : L.length ≤ 65536
  inv : ∃ rk, DInv par siz lea cnt L rk
  hd : h.blk o.a = some (.cells [.bool true, .slice o.p.a o.p.n o.p.c, .slice o.q.a o.q.n o.q.c, .slice o.r.a o.r.n o.r.c, .int .i64 (cnt : Nat)])
  lp : Lst h 1 o.p (ints (nats par)) o.lo
  lq : Lst h 1 o.q (ints (nats siz)) o.lo
  lr : Lst h 1 o.r (ints (nats lea)) o.lo
  alo : o.lo ≤ o.a
  ahi : o.a < o.hi
  hi : o.hi ≤ h.size
  php : ∀ x, o.p.a = some x → x.block < o.hi
  phq : ∀ x, o.q.a = some x → x.block < o.hi
  phr : ∀ x, o.r.a = some x → x.block < o.hi
  ap : nb o.p o.a
  aq : nb o.q o.a
  ar : nb o.r o.a
  pq : ∀ x, o.q.a = some x → nb o.p x.block
  pr : ∀ x, o.r.a = some x → nb o.p x.block
  qr : ∀ x, o.r.a = some x → nb o.q x.block

def DS (h : Hp) (o : DO) (L : List Nat) : Prop := ∃ par siz lea cnt, DSx h o L par siz lea cnt

namespace DSx
variable {h h' : Hp} {o : DO} {L par siz lea : List Nat} {cnt : Nat}

theorem lenp (d : DSx h o L par siz lea cnt) : par.length = L.length := d.inv.choose_spec.lp
theorem lenq (d : DSx h o L par siz lea cnt) : siz.length = L.length := d.inv.choose_spec.ls
theorem lenr (d : DSx h o L par siz lea cnt) : lea.length = L.length := d.inv.choose_spec.ll
theorem np (d : DSx h o L par siz lea cnt) : o.p.n = L.length := by have := d.lp.1; rw [ints_len, nats_len, d.lenp] at this; omega
theorem nq (d : DSx h o L par siz lea cnt) : o.q.n = L.length := by have := d.lq.1; rw [ints_len, nats_len, d.lenq] at this; omega
theorem nr (d : DSx h o L par siz lea cnt) : o.r.n = L.length := by have := d.lr.1; rw [ints_len, nats_len, d.lenr] at this; omega

theorem keep (d : DSx h o L par siz lea cnt) (hz : h.size ≤ h'.size) (hb : ∀ c, o.lo ≤ c → c < o.hi → h'.blk c = h.blk c) : DSx h' o L par siz lea cnt :=
  { d with
    hd := by rw [hb _ d.alo d.ahi]; exact d.hd
    lp := d.lp.keep hz fun x hx => hb _ (d.lp.blk_lt hx).1 (d.php x hx)
    lq := d.lq.keep hz fun x hx => hb _ (d.lq.blk_lt hx).1 (d.phq x hx)
    lr := d.lr.keep hz fun x hx => hb _ (d.lr.blk_lt hx).1 (d.phr x hx)
    hi := Nat.le_trans d.hi hz }

theorem c0 (d : DSx h o L par siz lea cnt) : h.cell ⟨o.a, 0, none⟩ = some (.bool true) := by rw [cell_own d.hd]; rfl
theorem c1 (d : DSx h o L par siz lea cnt) : h.cell ⟨o.a, 1, none⟩ = some (.slice o.p.a o.p.n o.p.c) := by rw [cell_own d.hd]; rfl
theorem c2 (d : DSx h o L par siz lea cnt) : h.cell ⟨o.a, 2, none⟩ = some (.slice o.q.a o.q.n o.q.c) := by rw [cell_own d.hd]; rfl
theorem c3 (d : DSx h o L par siz lea cnt) : h.cell ⟨o.a, 3, none⟩ = some (.slice o.r.a o.r.n o.r.c) := by rw [cell_own d.hd]; rfl
theorem c4 (d : DSx h o L par siz lea cnt) : h.cell ⟨o.a, 4, none⟩ = some (.int .i64 (cnt : Nat)) := by rw [cell_own d.hd]; rfl

/-- A store into the parents. -/
theorem setp (d : DSx h o L par siz lea cnt) {i v : Nat} (hz : h'.size = h.size) (hl : Lst h' 1 o.p (ints (nats (par.set i v))) o.lo) (hk : ∀ c, nb o.p c → h'.blk c = h.blk c) {rk : Nat → Nat}
    (hi : DInv (par.set i v) siz lea cnt L rk) : DSx h' o L (par.set i v) siz lea cnt :=
  { d with
    inv := ⟨rk, hi⟩
    hd := by rw [hk _ d.ap]; exact d.hd
    lp := hl
    lq := d.lq.keep (Nat.le_of_eq hz.symm) fun x hx => hk _ (d.pq x hx)
    lr := d.lr.keep (Nat.le_of_eq hz.symm) fun x hx => hk _ (d.pr x hx)
    hi := by rw [hz]; exact d.hi }

theorem frp (d : DSx h o L par siz lea cnt) (hz : h'.size = h.size) (hk : ∀ c, nb o.p c → h'.blk c = h.blk c) : FrI o.lo o.hi h h' :=
  ⟨Nat.le_of_eq hz.symm, fun c _ hc => hk c fun x hx => by have := (d.lp.blk_lt hx).1; have := d.php x hx; omega⟩
end DSx

theorem DS.fr {h h' : Hp} {o : DO} {L : List Nat} (d : DS h o L) (f : Fr h.size h h') : DS h' o L := by
  obtain ⟨par, siz, lea, cnt, d⟩ := d
  exact ⟨par, siz, lea, cnt, d.keep f.size fun c _ hc => f.blk c (by have := d.hi; omega)⟩

theorem DS.other {h h' : Hp} {o : DO} {L : List Nat} {lo hi : Nat} (d : DS h o L) (f : FrI lo hi h h') (hs : o.hi ≤ lo ∨ hi ≤ o.lo) : DS h' o L := by
  obtain ⟨par, siz, lea, cnt, d⟩ := d
  exact ⟨par, siz, lea, cnt, d.keep f.size fun c h1 h2 => f.blk c (by have := d.hi; omega) (by omega)⟩

theorem DS.n {h : Hp} {o : DO} {L : List Nat} (d : DS h o L) : L.length ≤ 65536 := by obtain ⟨_, _, _, _, d⟩ := d; exact d.n
theorem DS.lab {h : Hp} {o : DO} {L : List Nat} (d : DS h o L) : LInv L := by obtain ⟨_, _, _, _, d⟩ := d; obtain ⟨rk, i⟩ := d.inv; exact i.lab
theorem DS.hi {h : Hp} {o : DO} {L : List Nat} (d : DS h o L) : o.hi ≤ h.size := by obtain ⟨_, _, _, _, d⟩ := d; exact d.hi

/-- Whether a number is an element. -/
def inL (L : List Nat) (a : Int) : Prop := 0 ≤ a ∧ a < L.length

theorem has_spec {h : Hp} {o : DO} {L par siz lea : List Nat} {cnt : Nat} (d : DSx h o L par siz lea cnt) (a : Int) (K : Bool → Hp → Prop)
    (hy : 0 ≤ a → a < L.length → K true h) (hn : ¬ (0 ≤ a ∧ a < L.length) → K false h) : g_dsu_Sets_has (some ⟨o.a, 0, none⟩) a h K := by
  unfold g_dsu_Sets_has
  refine cnd_t rfl (cnd_of (fun c => nn_of ?_) fun c => ?_)
  · simp only [decide_eq_true_eq] at c
    rw [add_mk]
    refine ldS_of d.c1 ?_
    simp only [d.np, Int.ofNat_eq_natCast]
    by_cases g : a < L.length
    · rw [decide_eq_true g]; exact hy c g
    · rw [decide_eq_false g]; exact hn fun k => g k.2
  · simp only [decide_eq_false_iff_not] at c
    exact hn fun k => c k.1

theorem root_spec {h : Hp} {o : DO} {L par siz lea : List Nat} {cnt : Nat} (d : DSx h o L par siz lea cnt) (a : Nat) (ha : a < L.length) (K : Int → Hp → Prop)
    (hK : ∀ h' par' r, DSx h' o L par' siz lea cnt → FrI o.lo o.hi h h' → h'.size = h.size → r < L.length → gt par' r = r → gt L r = gt L a →
      (∀ i, i < L.length → gt par i = i → gt par' i = i) → K r h') : g_dsu_Sets_root (some ⟨o.a, 0, none⟩) a h K := by
  unfold g_dsu_Sets_root
  obtain ⟨rk, hinv⟩ := d.inv
  refine loop_of (fun m t h1 => ∃ par1 x, t.1 = ((x : Nat) : Int) ∧ DSx h1 o L par1 siz lea cnt ∧ DInv par1 siz lea cnt L rk ∧ FrI o.lo o.hi h h1 ∧ h1.size = h.size ∧ x < L.length ∧ gt L x = gt L a ∧ rk x ≤ m ∧
    ∀ i, i < L.length → gt par i = i → gt par1 i = i) ?_ (n := rk a) ⟨par, a, rfl, d, hinv, FrI.refl _ _ _, rfl, ha, rfl, Nat.le_refl _, fun _ _ h => h⟩
  rintro m K1 ⟨t, u⟩ h1 ⟨par1, x, rfl, d1, i1, fr, hz, hx, hl, hm, hr⟩ hK1
  simp only
  have hd1 := d1.lp.rd
  have hx' : (x : Int) < o.p.n := by rw [d1.np]; omega
  refine nn_of ?_
  rw [add_mk]
  refine ldS_of d1.c1 (ix_ld1 hd1 (by omega) hx' rfl ?_)
  rw [show Int.toNat (x : Int) = x from rfl, nats_getD]
  have hpx : par1.getD x 0 < L.length := i1.lt x hx
  refine cnd_of (fun c => ?_) fun c => nn_of ?_
  · have c : gt par1 x = x := by simp only [beq_iff_eq] at c; exact Int.ofNat.inj c
    exact hK h1 par1 x d1 fr hz hx c hl hr
  · have c : gt par1 x ≠ x := fun k => by simp only [beq_eq_false_iff_ne] at c; exact c (congrArg Int.ofNat k)
    have hlt := i1.rk x hx c
    rw [add_mk]
    refine ldS_of d1.c1 (nn_of ?_)
    rw [add_mk]
    refine ldS_of d1.c1 (ix_ld1 hd1 (by omega) (by rw [d1.np]; omega) rfl ?_)
    rw [show Int.toNat ((par1.getD x 0 : Nat) : Int) = par1.getD x 0 from rfl, nats_getD]
    refine ix_st1 d1.lp (by omega) hx' rfl fun h2 z2 l2 k2 => ?_
    rw [show Int.toNat (x : Int) = x from rfl, nats_set] at l2
    obtain ⟨i2, r2⟩ := i1.split hx c
    refine hK1 (m - 1) (by omega) _ _ ⟨_, gt par1 x, rfl, d1.setp z2 l2 k2 i2, i2, fr.trans (d1.frp z2 k2), by omega, hpx, by rw [i1.cls x hx, hl], by omega, fun i hi h => r2 i hi (hr i hi h)⟩

theorem root_spec' {h : Hp} {o : DO} {L par siz lea : List Nat} {cnt : Nat} (d : DSx h o L par siz lea cnt) (a : Int) (ha : 0 ≤ a ∧ a < L.length) (K : Int → Hp → Prop)
    (hK : ∀ h' par' r, DSx h' o L par' siz lea cnt → FrI o.lo o.hi h h' → h'.size = h.size → r < L.length → gt par' r = r → gt L r = gt L a.toNat →
      (∀ i, i < L.length → gt par i = i → gt par' i = i) → K ((r : Nat) : Int) h') : g_dsu_Sets_root (some ⟨o.a, 0, none⟩) a h K := by
  obtain ⟨n, rfl⟩ : ∃ n : Nat, a = n := ⟨a.toNat, by omega⟩
  exact root_spec d n (by omega) K hK

/-- What a union answers. -/
def unionV (L : List Nat) (a b : Int) : Bool × Int × List Nat :=
  if 0 ≤ a ∧ a < L.length ∧ 0 ≤ b ∧ b < L.length then
    if gt L a.toNat = gt L b.toNat then (false, 0, L) else (true, 0, mergeL L (gt L a.toNat) (gt L b.toNat))
  else (false, 3, L)

theorem Union_spec {h : Hp} {o : DO} {L : List Nat} (d : DS h o L) (a b : Int) (K : Bool → Int → Hp → Prop)
    (hK : ∀ h', DS h' o (unionV L a b).2.2 → FrI o.lo o.hi h h' → K (unionV L a b).1 (unionV L a b).2.1 h') : g_dsu_Sets_Union (some ⟨o.a, 0, none⟩) a b h K := by
  obtain ⟨par, siz, lea, cnt, d⟩ := d
  have bad : ¬ (0 ≤ a ∧ a < L.length ∧ 0 ≤ b ∧ b < L.length) → K false 3 h := fun hb => by
    have := hK h
    rw [unionV, if_neg hb] at this
    exact this ⟨par, siz, lea, cnt, d⟩ (FrI.refl _ _ _)
  unfold g_dsu_Sets_Union
  refine cnd_f rfl (nn_of ?_)
  rw [add_mk]
  refine ldB_of d.c0 (cnd_f rfl (has_spec d a _ (fun a0 a1 => cnd_f rfl (has_spec d b _ (fun b0 b1 => cnd_f rfl ?_) fun hn => cnd_t rfl (bad (by omega)))) fun hn => cnd_t rfl (bad (by omega))))
  have good : 0 ≤ a ∧ a < L.length ∧ 0 ≤ b ∧ b < L.length := ⟨a0, a1, b0, b1⟩
  refine root_spec' d a ⟨a0, a1⟩ _ fun h1 par1 r d1 fr1 z1 hr rr lr _ => root_spec' d1 b ⟨b0, b1⟩ _ fun h2 par2 t d2 fr2 z2 ht rt lt keep => ?_
  have rr2 := keep r hr rr
  obtain ⟨rk, i2⟩ := d2.inv
  have fr := fr1.trans fr2
  refine cnd_of (fun c => ?_) fun c => ?_
  · have c : r = t := by simp only [beq_iff_eq] at c; exact Int.ofNat.inj c
    have := hK h2
    rw [unionV, if_pos good, if_pos (by rw [← lr, ← lt, c])] at this
    exact this ⟨_, _, _, _, d2⟩ fr
  · have c : r ≠ t := fun k => by simp only [beq_eq_false_iff_ne] at c; exact c (congrArg Int.ofNat k)
    have hLne : gt L a.toNat ≠ gt L b.toNat := fun k => c (i2.uni r t hr ht rr2 rt (by rw [lr, lt, k]))
    have fin : ∀ h', DS h' o (mergeL L (gt L r) (gt L t)) → FrI o.lo o.hi h h' → K true 0 h' := fun h' => by
      have := hK h'
      rw [unionV, if_pos good, if_neg hLne] at this
      rw [lr, lt]
      exact this
    unfold jn
    have hq := d2.lq.rd
    have hp := d2.lp.rd
    have hl := d2.lr.rd
    refine nn_of ?_
    simp only [add_mk]
    refine ldS_of d2.c2 (ix_ld1 hq (by omega) (by rw [d2.nq]; omega) rfl (nn_of ?_))
    simp only [add_mk]
    refine ldS_of d2.c2 (ix_ld1 hq (by omega) (by rw [d2.nq]; omega) rfl ?_)
    -- the one that stays, and the one that goes
    have main : ∀ (x y : Nat), x < L.length → y < L.length → gt par2 x = x → gt par2 y = y → x ≠ y → (∀ h', DS h' o (mergeL L (gt L x) (gt L y)) → FrI o.lo o.hi h2 h' → K true 0 h') →
        (nn (some ⟨o.a, 0, none⟩) fun a14 =>
              ldS h2 (a14.add 1) fun s15 =>
              ix s15.a s15.n (y : Int) fun a16 =>
              stc h2 ((a16.add (Int.toNat (y : Int) * 1)).add 0) (.int .i64 (x : Int)) fun h17 =>
              nn (some ⟨o.a, 0, none⟩) fun a18 =>
              ldS h17 (a18.add 2) fun s19 =>
              ix s19.a s19.n (x : Int) fun a20 =>
              ldI .i64 h17 (a20.add (Int.toNat (x : Int) * 1)) fun n21 =>
              nn (some ⟨o.a, 0, none⟩) fun a22 =>
              ldS h17 (a22.add 2) fun s23 =>
              ix s23.a s23.n (y : Int) fun a24 =>
              ldI .i64 h17 (a24.add (Int.toNat (y : Int) * 1)) fun n25 =>
              ix s19.a s19.n (x : Int) fun a26 =>
              stc h17 ((a26.add (Int.toNat (x : Int) * 1)).add 0) (.int .i64 (w64 (n21 + n25))) fun h27 =>
              nn (some ⟨o.a, 0, none⟩) fun a28 =>
              ldS h27 (a28.add 3) fun s29 =>
              nn (some ⟨o.a, 0, none⟩) fun a30 =>
              ldS h27 (a30.add 3) fun s31 =>
              ix s31.a s31.n (x : Int) fun a32 =>
              ldI .i64 h27 (a32.add (Int.toNat (x : Int) * 1)) fun n33 =>
              nn (some ⟨o.a, 0, none⟩) fun a34 =>
              ldS h27 (a34.add 3) fun s35 =>
              ix s35.a s35.n (y : Int) fun a36 =>
              ldI .i64 h27 (a36.add (Int.toNat (y : Int) * 1)) fun n37 =>
              ix s29.a s29.n (x : Int) fun a38 =>
              stc h27 ((a38.add (Int.toNat (x : Int) * 1)).add 0) (.int .i64 (if n37 < n33 then n37 else n33)) fun h39 =>
              nn (some ⟨o.a, 0, none⟩) fun a40 =>
              ldI .i64 h39 (a40.add 4) fun n41 =>
              nn (some ⟨o.a, 0, none⟩) fun a42 =>
              stc h39 ((a42.add 4).add 0) (.int .i64 (w64 (n41 - 1))) fun h43 =>
              K true 0 h43) := by
      intro x y hx hy rx ry hne hK2
      have ex : Int.toNat (x : Int) = x := rfl
      have ey : Int.toNat (y : Int) = y := rfl
      obtain ⟨c1, ssum, rk', inv'⟩ := i2.union hx hy rx ry hne
      have nn' := d2.n
      have ccl : cnt ≤ L.length := by rw [i2.cnt]; exact cntB_le _ _
      refine nn_of ?_
      rw [add_mk]
      refine ldS_of d2.c1 (ix_st1 d2.lp (by omega) (by rw [d2.np]; omega) rfl fun h17 z17 l17 k17 => ?_)
      rw [ey, nats_set] at l17
      have hd17 := (k17 _ d2.ap).trans d2.hd
      have q17 := d2.lq.keep (h' := h17) (by omega) fun c hc => k17 _ (d2.pq c hc)
      have r17 := d2.lr.keep (h' := h17) (by omega) fun c hc => k17 _ (d2.pr c hc)
      refine nn_of ?_
      rw [add_mk]
      refine ldS_of (by rw [cell_own hd17]; rfl) (ix_ld1 q17.rd (by omega) (by rw [d2.nq]; omega) rfl (nn_of ?_))
      rw [add_mk]
      refine ldS_of (by rw [cell_own hd17]; rfl) (ix_ld1 q17.rd (by omega) (by rw [d2.nq]; omega) rfl ?_)
      rw [ex, ey, nats_getD, nats_getD]
      have e1 : w64 (((siz.getD x 0 : Nat) : Int) + ((siz.getD y 0 : Nat) : Int)) = ((gt siz x + gt siz y : Nat) : Int) := by
        have : siz.getD x 0 + siz.getD y 0 ≤ L.length := ssum
        rw [w64, w64_eq (by omega) (by omega)]; rfl
      rw [e1]
      refine ix_st1 q17 (by omega) (by rw [d2.nq]; omega) rfl fun h27 z27 l27 k27 => ?_
      rw [ex, nats_set] at l27
      have hd27 := (k27 _ d2.aq).trans hd17
      have p27 := l17.keep (h' := h27) (by omega) fun c hc => k27 _ fun e he hce => d2.pq e he c hc hce.symm
      have r27 := r17.keep (h' := h27) (by omega) fun c hc => k27 _ (d2.qr c hc)
      refine nn_of ?_
      rw [add_mk]
      refine ldS_of (by rw [cell_own hd27]; rfl) (nn_of ?_)
      rw [add_mk]
      refine ldS_of (by rw [cell_own hd27]; rfl) (ix_ld1 r27.rd (by omega) (by rw [d2.nr]; omega) rfl (nn_of ?_))
      rw [add_mk]
      refine ldS_of (by rw [cell_own hd27]; rfl) (ix_ld1 r27.rd (by omega) (by rw [d2.nr]; omega) rfl ?_)
      rw [ex, ey, nats_getD, nats_getD]
      have e2 : (if ((lea.getD y 0 : Nat) : Int) < ((lea.getD x 0 : Nat) : Int) then ((lea.getD y 0 : Nat) : Int) else ((lea.getD x 0 : Nat) : Int)) = ((min (gt lea x) (gt lea y) : Nat) : Int) := by
        show _ = ((min (lea.getD x 0) (lea.getD y 0) : Nat) : Int)
        split <;> omega
      rw [e2]
      refine ix_st1 r27 (by omega) (by rw [d2.nr]; omega) rfl fun h39 z39 l39 k39 => ?_
      rw [ex, nats_set] at l39
      have hd39 := (k39 _ d2.ar).trans hd27
      have p39 := p27.keep (h' := h39) (by omega) fun c hc => k39 _ fun e he hce => d2.pr e he c hc hce.symm
      have q39 := l27.keep (h' := h39) (by omega) fun c hc => k39 _ fun e he hce => d2.qr e he c hc hce.symm
      refine nn_of ?_
      rw [add_mk]
      refine ldI_of (by rw [cell_own hd39]; rfl) (nn_of ?_)
      rw [add_mk, add_mk]
      refine stc_of hd39 (by simp) fun h43 z43 b43 k43 => ?_
      have e3 : w64 (((cnt : Nat) : Int) - 1) = ((cnt - 1 : Nat) : Int) := by rw [w64, w64_eq (by omega) (by omega)]; omega
      rw [e3] at b43
      refine hK2 h43 ⟨_, _, _, _, { d2 with
        n := by rw [mergeL_len]; exact d2.n
        inv := ⟨rk', inv'⟩
        hd := b43
        lp := p39.keep (by omega) fun c hc => k43 _ fun e => d2.ap c hc e.symm
        lq := q39.keep (by omega) fun c hc => k43 _ fun e => d2.aq c hc e.symm
        lr := l39.keep (by omega) fun c hc => k43 _ fun e => d2.ar c hc e.symm
        hi := by have := d2.hi; omega }⟩ ⟨by omega, fun c hc ho => ?_⟩
      have a1 := d2.alo
      have a2 := d2.ahi
      rw [k43 c (by omega), k39 c fun e he => by have := (d2.lr.blk_lt he).1; have := d2.phr e he; omega, k27 c fun e he => by have := (d2.lq.blk_lt he).1; have := d2.phq e he; omega,
        k17 c fun e he => by have := (d2.lp.blk_lt he).1; have := d2.php e he; omega]
    refine cnd_of (fun c2 => ?_) fun c2 => ?_
    · exact main t r ht hr rt rr2 (fun k => c k.symm) fun h' hd hf => fin h' (by rw [mergeL_comm]; exact hd) (fr.trans hf)
    · exact main r t hr ht rr2 rt c fun h' hd hf => fin h' hd (fr.trans hf)

end Go.Hx
