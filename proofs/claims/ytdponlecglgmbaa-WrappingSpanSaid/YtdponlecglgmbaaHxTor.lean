/- What the functions of tori compute, over the abstract heap. No condition. -/
import Derived.Test.YtdponlecglgmbaaHxIter
import Derived.Test.YtdponlecglgmbaaHxTorT
namespace Go.Hx
set_option linter.unusedSimpArgs false
set_option linter.unusedVariables false

/-! ### Where a torus lies -/

structure TOb where
  a : Nat
  p : Nat
  q : Nat
  r : Nat
  s : Nat
  lo : Nat
  hi : Nat

def bools (l : List Bool) : List Value := l.map .bool
theorem bools_len (l : List Bool) : (bools l).length = l.length := by simp [bools]
theorem bools_get {l : List Bool} {i : Nat} (hi : i < l.length) : (bools l)[i]? = some (.bool (l.getD i false)) := by
  simp [bools, List.getD, List.getElem?_eq_getElem hi]
theorem bools_set (l : List Bool) (i : Nat) (v : Bool) : (bools l).set i (.bool v) = bools (l.set i v) := by simp [bools]

/-- Reading the list of displacements. -/
def oF (M : List Int) (k : Bool) (i : Nat) : Int := M.getD (i * 2 + (if k then 1 else 0)) 0
def wF (W : List Bool) (i : Nat) (k : Bool) : Bool := W.getD (i * 2 + (if k then 1 else 0)) false
def aF (a0 a1 : Bool) (k : Bool) : Bool := if k then a1 else a0

theorem oF_set {M : List Int} {n u : Nat} (hM : M.length = 2 * n) (hu : u < n) (x y : Int) (k : Bool) (i : Nat) :
    oF ((M.set (u * 2) x).set (u * 2 + 1) y) k i = if i = u then (if k then y else x) else oF M k i := by
  unfold oF
  simp only [List.getD, List.getElem?_set, List.length_set]
  by_cases h : i = u
  · subst h
    cases k
    · have h1 : ¬ i * 2 + 1 = i * 2 := by omega
      have h2 : i * 2 < M.length := by omega
      simp [h1, h2]
    · have h2 : i * 2 + 1 < M.length := by omega
      simp [h2]
  · cases k
    · have h1 : ¬ u * 2 + 1 = i * 2 := by omega
      have h2 : ¬ u * 2 = i * 2 := by omega
      simp [h, h1, h2]
    · have h1 : ¬ u * 2 = i * 2 := by omega
      have h2 : ¬ u * 2 = i * 2 + 1 := by omega
      simp [h, h1, h2]

theorem wF_set {W : List Bool} {n u : Nat} (hW : W.length = 2 * n) (hu : u < n) (x : Bool) (j : Bool) (i : Nat) (k : Bool) :
    wF (W.set (u * 2 + (if j then 1 else 0)) x) i k = if i = u ∧ j = k then x else wF W i k := by
  unfold wF
  simp only [List.getD, List.getElem?_set]
  by_cases h : u * 2 + (if j then 1 else 0) = i * 2 + (if k then 1 else 0)
  · have h2 : i * 2 + (if k then 1 else 0) < W.length := by cases k <;> cases j <;> simp_all <;> omega
    have h3 : i = u ∧ j = k := by cases k <;> cases j <;> simp_all <;> omega
    rw [if_pos h, if_pos (by rw [h]; exact h2), if_pos h3]
    rfl
  · have h3 : ¬ (i = u ∧ j = k) := by rintro ⟨rfl, rfl⟩; exact h rfl
    rw [if_neg h, if_neg h3]

/-- The blocks of a torus, and what they hold. -/
structure TSx (h : Hp) (o : TOb) (w t : Nat) (R : ER) (par siz : List Nat) (M : List Int) (W : List Bool) (a0 a1 : Bool) (cnt : Nat) (L lea : List Nat) (rk : Nat → Nat) (P : Bool → Nat → Int) : Prop where
  w1 : 1 ≤ w
  t1 : 1 ≤ t
  wt : w * t ≤ 4096
  inv : TInv R (w * t) par siz (oF M) (wF W) (aF a0 a1) cnt L lea rk P
  hd : h.blk o.a = some (.cells [.int .i64 (w : Nat), .int .i64 (t : Nat), .slice (some ⟨o.p, 0, none⟩) (w * t) (w * t), .slice (some ⟨o.q, 0, none⟩) (w * t) (w * t), .slice (some ⟨o.r, 0, none⟩) (w * t) (w * t), .slice (some ⟨o.s, 0, none⟩) (w * t) (w * t), .bool a0, .bool a1, .int .i64 (cnt : Nat)])
  bp : h.blk o.p = some (.cells (ints (nats par)))
  bq : h.blk o.q = some (.cells (ints M))
  br : h.blk o.r = some (.cells (ints (nats siz)))
  bs : h.blk o.s = some (.cells (bools W))
  lM : M.length = 2 * (w * t)
  lW : W.length = 2 * (w * t)
  hi : o.hi ≤ h.size
  ia : o.lo ≤ o.a ∧ o.a < o.hi
  ip : o.lo ≤ o.p ∧ o.p < o.hi
  iq : o.lo ≤ o.q ∧ o.q < o.hi
  ir : o.lo ≤ o.r ∧ o.r < o.hi
  is : o.lo ≤ o.s ∧ o.s < o.hi
  ap : o.a ≠ o.p
  aq : o.a ≠ o.q
  ar : o.a ≠ o.r
  as : o.a ≠ o.s
  pq : o.p ≠ o.q
  pr : o.p ≠ o.r
  ps : o.p ≠ o.s
  qr : o.q ≠ o.r
  qs : o.q ≠ o.s
  rs : o.r ≠ o.s

namespace TSx
variable {h h' : Hp} {o : TOb} {w t : Nat} {R : ER} {par siz : List Nat} {M : List Int} {W : List Bool} {a0 a1 : Bool} {cnt : Nat} {L lea : List Nat} {rk : Nat → Nat} {P : Bool → Nat → Int}

theorem keep (d : TSx h o w t R par siz M W a0 a1 cnt L lea rk P) (hz : h.size ≤ h'.size) (hb : ∀ c, o.lo ≤ c → c < o.hi → h'.blk c = h.blk c) : TSx h' o w t R par siz M W a0 a1 cnt L lea rk P :=
  { d with
    hd := by rw [hb _ d.ia.1 d.ia.2]; exact d.hd
    bp := by rw [hb _ d.ip.1 d.ip.2]; exact d.bp
    bq := by rw [hb _ d.iq.1 d.iq.2]; exact d.bq
    br := by rw [hb _ d.ir.1 d.ir.2]; exact d.br
    bs := by rw [hb _ d.is.1 d.is.2]; exact d.bs
    hi := Nat.le_trans d.hi hz }

theorem fr (d : TSx h o w t R par siz M W a0 a1 cnt L lea rk P) (f : Fr h.size h h') : TSx h' o w t R par siz M W a0 a1 cnt L lea rk P :=
  d.keep f.size fun c _ hc => f.blk c (by have := d.hi; omega)

theorem lpar (d : TSx h o w t R par siz M W a0 a1 cnt L lea rk P) : par.length = w * t := by rw [d.inv.d.lp, d.inv.nl]
theorem lsiz (d : TSx h o w t R par siz M W a0 a1 cnt L lea rk P) : siz.length = w * t := by rw [d.inv.d.ls, d.inv.nl]
end TSx

/-! ### Displacements -/

theorem plus_spec (x y u v : Int) (h : Hp) (K : Int → Int → Hp → Prop) (hK : ∀ h', Fr h.size h h' → K (w64 (x + u)) (w64 (y + v)) h') : g_wrapping_shift_plus x y u v h K := by
  unfold g_wrapping_shift_plus
  refine alo_of fun h2 z2 b2 k2 => alo_of fun h4 z4 b4 k4 => alo_of fun h6 z6 b6 k6 => ?_
  have e2 : h6.blk h.size = some (.cells [.int .i64 x, .int .i64 y]) := by rw [k6 _ (by omega), k4 _ (by omega), b2]
  have e4 : h6.blk h2.size = some (.cells [.int .i64 u, .int .i64 v]) := by rw [k6 _ (by omega), b4]
  simp only [add_mk]
  refine ⟨by omega, by omega, ldI_of (by rw [cell_own e2]; rfl) ⟨by omega, by omega, ldI_of (by rw [cell_own e4]; rfl) ⟨by omega, by omega, ldI_of (by rw [cell_own e2]; rfl) ⟨by omega, by omega, ldI_of (by rw [cell_own e4]; rfl) ?_⟩⟩⟩⟩
  refine stc_of b6 (by simp) fun h7 z7 b7 k7 => stc_of b7 (by simp) fun h8 z8 b8 k8 => ?_
  refine ldI_of (by rw [cell_own b8]; rfl) (ldI_of (by rw [cell_own b8]; rfl) (hK h8 ⟨by omega, fun c hc => ?_⟩))
  rw [k8 _ (by omega), k7 _ (by omega), k6 _ (by omega), k4 _ (by omega), k2 _ (by omega)]

theorem minus_spec (x y u v : Int) (h : Hp) (K : Int → Int → Hp → Prop) (hK : ∀ h', Fr h.size h h' → K (w64 (x - u)) (w64 (y - v)) h') : g_wrapping_shift_minus x y u v h K := by
  unfold g_wrapping_shift_minus
  refine alo_of fun h2 z2 b2 k2 => alo_of fun h4 z4 b4 k4 => alo_of fun h6 z6 b6 k6 => ?_
  have e2 : h6.blk h.size = some (.cells [.int .i64 x, .int .i64 y]) := by rw [k6 _ (by omega), k4 _ (by omega), b2]
  have e4 : h6.blk h2.size = some (.cells [.int .i64 u, .int .i64 v]) := by rw [k6 _ (by omega), b4]
  simp only [add_mk]
  refine ⟨by omega, by omega, ldI_of (by rw [cell_own e2]; rfl) ⟨by omega, by omega, ldI_of (by rw [cell_own e4]; rfl) ⟨by omega, by omega, ldI_of (by rw [cell_own e2]; rfl) ⟨by omega, by omega, ldI_of (by rw [cell_own e4]; rfl) ?_⟩⟩⟩⟩
  refine stc_of b6 (by simp) fun h7 z7 b7 k7 => stc_of b7 (by simp) fun h8 z8 b8 k8 => ?_
  refine ldI_of (by rw [cell_own b8]; rfl) (ldI_of (by rw [cell_own b8]; rfl) (hK h8 ⟨by omega, fun c hc => ?_⟩))
  rw [k8 _ (by omega), k7 _ (by omega), k6 _ (by omega), k4 _ (by omega), k2 _ (by omega)]

/-! ### Finding a root -/

section
variable {h : Hp} {o : TOb} {w t : Nat} {R : ER} {par siz : List Nat} {M : List Int} {W : List Bool} {a0 a1 : Bool} {cnt : Nat} {L lea : List Nat} {rk : Nat → Nat} {P : Bool → Nat → Int}

theorem TSx.cell (d : TSx h o w t R par siz M W a0 a1 cnt L lea rk P) (k : Nat) : h.cell ⟨o.a, k, none⟩ = [Value.int .i64 (w : Nat), .int .i64 (t : Nat), .slice (some ⟨o.p, 0, none⟩) (w * t) (w * t), .slice (some ⟨o.q, 0, none⟩) (w * t) (w * t), .slice (some ⟨o.r, 0, none⟩) (w * t) (w * t), .slice (some ⟨o.s, 0, none⟩) (w * t) (w * t), .bool a0, .bool a1, .int .i64 (cnt : Nat)][k]? := cell_own d.hd k

theorem TSx.cp (d : TSx h o w t R par siz M W a0 a1 cnt L lea rk P) {i : Nat} (hi : i < w * t) : h.cell ⟨o.p, i, none⟩ = some (.int .i64 (gt par i : Nat)) := by
  rw [cell_own d.bp, ints_getD (by rw [nats_len, d.lpar]; exact hi), nats_getD]
theorem TSx.cr (d : TSx h o w t R par siz M W a0 a1 cnt L lea rk P) {i : Nat} (hi : i < w * t) : h.cell ⟨o.r, i, none⟩ = some (.int .i64 (gt siz i : Nat)) := by
  rw [cell_own d.br, ints_getD (by rw [nats_len, d.lsiz]; exact hi), nats_getD]
theorem TSx.cq (d : TSx h o w t R par siz M W a0 a1 cnt L lea rk P) {i : Nat} (hi : i < w * t) (k : Bool) : h.cell ⟨o.q, i * 2 + (if k then 1 else 0), none⟩ = some (.int .i64 (oF M k i)) := by
  rw [cell_own d.bq, ints_getD (by rw [d.lM]; cases k <;> simp <;> omega)]; rfl
theorem TSx.cs (d : TSx h o w t R par siz M W a0 a1 cnt L lea rk P) {i : Nat} (hi : i < w * t) (k : Bool) : h.cell ⟨o.s, i * 2 + (if k then 1 else 0), none⟩ = some (.bool (wF W i k)) := by
  rw [cell_own d.bs, bools_get (by rw [d.lW]; cases k <;> simp <;> omega)]; rfl

/-- One element is put below its root. -/
theorem find1_spec (d : TSx h o w t R par siz M W a0 a1 cnt L lea rk P) {u r c0 c1 c2 : Nat} (hu : u < w * t) (hne : gt par u ≠ u) (hr : r < w * t) (rr : gt par r = r) (hl : gt L r = gt L u)
    (h1 : o.hi ≤ c1) (h1' : c1 < h.size) (h0' : c0 < h.size) (h2' : c2 < h.size) (h01 : c0 ≠ c1) (h21 : c2 ≠ c1)
    (b0 : h.blk c0 = some (.cells [.pointer (some ⟨o.a, 0, none⟩)])) (b1 : h.blk c1 = some (.cells [.int .i64 (P false (gt par u)), .int .i64 (P true (gt par u))])) (b2 : h.blk c2 = some (.cells [.int .i64 (r : Nat)]))
    (K : Hp → Prop) (hK : ∀ h', TSx h' o w t R (par.set u r) siz ((M.set (u * 2) (P false u)).set (u * 2 + 1) (P true u)) W a0 a1 cnt L lea rk P →
      h'.blk c1 = some (.cells [.int .i64 (P false u), .int .i64 (P true u)]) → h.size ≤ h'.size → (∀ c, c < h.size → c ≠ o.p → c ≠ o.q → c ≠ c1 → h'.blk c = h.blk c) → K h') :
    g_wrapping_Torus_find_f1 (u : Nat) ⟨c0, 0, none⟩ ⟨c1, 0, none⟩ ⟨c2, 0, none⟩ h K := by
  have hn := d.wt
  have ia := d.ia; have ip := d.ip; have iq := d.iq; have hhi := d.hi
  have ap := d.ap; have aq := d.aq; have ar := d.ar; have as := d.as; have pq := d.pq; have pr' := d.pr; have ps := d.ps; have qr := d.qr; have qs := d.qs
  have hfo : ∀ k, oF M k u = P k u - P k (gt par u) := fun k => d.inv.fo u hu hne k
  have hpu : gt par u < w * t := by have := d.inv.d.lt u (by rw [d.inv.nl]; exact hu); rwa [d.inv.nl] at this
  have hB : ∀ i k, i < w * t → -4097 < P k i ∧ P k i < 4097 := fun i k hi => by have := d.inv.bound hi k; omega
  unfold g_wrapping_Torus_find_f1
  simp only [add_mk, show Int.toNat (u : Int) = u from rfl, Nat.zero_add, Nat.add_zero, Nat.mul_one]
  refine ldP_of (by rw [cell_own b0]; rfl) (nn_of ?_)
  simp only [add_mk, Nat.zero_add]
  refine ldS_of (by rw [d.cell]; rfl) (ix_of (by omega) (by simp only; omega) ?_)
  simp only [add_mk, Nat.zero_add, Nat.add_zero]
  refine ldI_of (d.cq hu false) (ldI_of (d.cq hu true) (ldI_of (by rw [cell_own b1]; rfl) (ldI_of (by rw [cell_own b1]; rfl) ?_)))
  have s0 := hB u false hu; have s1 := hB u true hu; have s2 := hB _ false hpu; have s3 := hB _ true hpu
  rw [hfo false, hfo true]
  refine plus_spec _ _ _ _ _ _ fun h11 f11 => ?_
  rw [w64, w64, w64_eq (by omega) (by omega), w64_eq (by omega) (by omega), show P false u - P false (gt par u) + P false (gt par u) = P false u by omega, show P true u - P true (gt par u) + P true (gt par u) = P true u by omega]
  have z11 := f11.size
  refine stc_of (by rw [f11.blk _ h1', b1]) (by simp) fun h12 z12 b12 k12 => stc_of b12 (by simp) fun h13 z13 b13 k13 => ?_
  simp only [List.set_cons_zero, List.set_cons_succ] at b13
  have d13 : TSx h13 o w t R par siz M W a0 a1 cnt L lea rk P := d.keep (by omega) fun c hc1 hc2 => by rw [k13 _ (by omega), k12 _ (by omega), f11.blk _ (by omega)]
  have e0 : h13.blk c0 = some (.cells [.pointer (some ⟨o.a, 0, none⟩)]) := by rw [k13 _ h01, k12 _ h01, f11.blk _ h0', b0]
  have e2 : h13.blk c2 = some (.cells [.int .i64 (r : Nat)]) := by rw [k13 _ h21, k12 _ h21, f11.blk _ h2', b2]
  refine ldP_of (by rw [cell_own e0]; rfl) (nn_of ?_)
  simp only [add_mk, Nat.zero_add]
  refine ldS_of (by rw [d13.cell]; rfl) (ldP_of (by rw [cell_own e0]; rfl) (nn_of ?_))
  simp only [add_mk, Nat.zero_add]
  refine ldS_of (by rw [d13.cell]; rfl) (ldI_of (by rw [cell_own e2]; rfl) (ldI_of (by rw [cell_own b13]; rfl) (ldI_of (by rw [cell_own b13]; rfl) (ix_of (by omega) (by omega) ?_))))
  simp only [add_mk, Nat.zero_add, Nat.add_zero]
  refine stc_of d13.bp (by rw [ints_len, nats_len, d.lpar]; exact hu) fun h14 z14 b14 k14 => ?_
  have e1 : h14.blk c1 = some (.cells [.int .i64 (P false u), .int .i64 (P true u)]) := by rw [k14 _ (by omega), b13]
  refine ⟨by rw [cell_own e1]; rfl, by rw [cell_own e1]; rfl, ix_of (by omega) (by omega) ?_⟩
  simp only [add_mk, Nat.zero_add, Nat.add_zero]
  have q14 : h14.blk o.q = some (.cells (ints M)) := by rw [k14 _ (by omega)]; exact d13.bq
  refine stc_of q14 (by rw [ints_len, d.lM]; omega) fun h15 z15 b15 k15 => stc_of b15 (by simp [ints_len, d.lM]; omega) fun h16 z16 b16 k16 => ?_
  rw [ints_set, ints_set] at b16
  rw [ints_set, nats_set] at b14
  refine hK h16 ?_ (by rw [k16 _ (by omega), k15 _ (by omega), e1]) (by omega) fun c hc hcp hcq hc1 => ?_
  · exact { d with
      inv := d.inv.compress hu hne hr rr hl fun k i hi => by
        rw [oF_set d.lM hu]
        cases k <;> rfl
      hd := by rw [k16 _ (by omega), k15 _ (by omega), k14 _ (by omega)]; exact d13.hd
      bp := by rw [k16 _ (by omega), k15 _ (by omega)]; exact b14
      bq := b16
      br := by rw [k16 _ (by omega), k15 _ (by omega), k14 _ (by omega)]; exact d13.br
      bs := by rw [k16 _ (by omega), k15 _ (by omega), k14 _ (by omega)]; exact d13.bs
      lM := by simp [d.lM]
      hi := by omega }
  · rw [k16 _ (by omega), k15 _ (by omega), k14 _ (by omega), k13 _ hc1, k12 _ hc1, f11.blk _ hc]

/-- The elements above one. -/
def itr (par : List Nat) (v : Nat) : Nat → Nat
  | 0 => v
  | j + 1 => gt par (itr par v j)

theorem inj_le {n : Nat} (f : Nat → Nat) : ∀ m, (∀ j, j < m → f j < n) → (∀ i j, i < j → j < m → f i ≠ f j) → (cntB n fun v => (List.range m).any fun j => f j == v) = m
  | 0, _, _ => by
    rw [cntB_congr (q := fun _ => false) fun i _ => by simp]
    unfold cntB
    simp
  | m + 1, h1, h2 => by
    have ih := inj_le f m (fun j hj => h1 j (by omega)) (fun i j hi hj => h2 i j hi (by omega))
    rw [cntB_del (k := f m) (q := fun v => (List.range m).any fun j => f j == v) (h1 m (by omega)) (by simp; exact ⟨m, by omega, rfl⟩) ?_ fun i hi hne => ?_, ih]
    · rw [Bool.eq_false_iff]
      intro h
      simp only [List.any_eq_true, List.mem_range, beq_iff_eq] at h
      obtain ⟨j, hj, e⟩ := h
      exact h2 j m hj (by omega) e
    · rw [List.range_succ, List.any_append]
      simp only [List.any_cons, List.any_nil, Bool.or_false]
      have : (f m == i) = false := by simp; exact fun e => hne e.symm
      rw [this, Bool.or_false]

variable {n : Nat} {o' : Bool → Nat → Int} {wr' : Nat → Bool → Bool} {all' : Bool → Bool}

theorem itr_facts (d : TInv R n par siz o' wr' all' cnt L lea rk P) {v : Nat} (hv : v < n) : ∀ m, (∀ j, j < m → gt par (itr par v j) ≠ itr par v j) → itr par v m < n ∧ gt L (itr par v m) = gt L v ∧ rk (itr par v m) + m ≤ rk v
  | 0, _ => ⟨hv, rfl, Nat.le_refl _⟩
  | m + 1, h => by
    obtain ⟨h1, h2, h3⟩ := itr_facts d hv m fun j hj => h j (by omega)
    have hl : itr par v m < L.length := by rw [d.nl]; exact h1
    have := d.d.rk _ hl (h m (by omega))
    refine ⟨by have := d.d.lt _ hl; rw [d.nl] at this; exact this, (d.d.cls _ hl).trans h2, ?_⟩
    show rk (gt par (itr par v m)) + (m + 1) ≤ rk v
    omega

theorem itr_rk (d : TInv R n par siz o' wr' all' cnt L lea rk P) {v : Nat} (hv : v < n) {m : Nat} (h : ∀ j, j < m → gt par (itr par v j) ≠ itr par v j) : ∀ i k, i + k + 1 ≤ m → rk (itr par v (i + k + 1)) < rk (itr par v i)
  | i, 0, hi => by
    have hl : itr par v i < L.length := by rw [d.nl]; exact (itr_facts d hv i fun j hj => h j (by omega)).1
    exact d.d.rk _ hl (h i (by omega))
  | i, k + 1, hi => by
    have := itr_rk d hv h i k (by omega)
    have hl : itr par v (i + k + 1) < L.length := by rw [d.nl]; exact (itr_facts d hv (i + k + 1) fun j hj => h j (by omega)).1
    have := d.d.rk _ hl (h (i + k + 1) (by omega))
    show rk (gt par (itr par v (i + k + 1))) < _
    omega

theorem itr_ne (d : TInv R n par siz o' wr' all' cnt L lea rk P) {v : Nat} (hv : v < n) {m : Nat} (h : ∀ j, j < m → gt par (itr par v j) ≠ itr par v j) {i j : Nat} (hij : i < j) (hj : j ≤ m) : itr par v i ≠ itr par v j := by
  have := itr_rk d hv h i (j - i - 1) (by omega)
  rw [show i + (j - i - 1) + 1 = j by omega] at this
  intro e
  rw [e] at this
  omega

theorem itr_le (d : TInv R n par siz o' wr' all' cnt L lea rk P) {v : Nat} (hv : v < n) {m : Nat} (h : ∀ j, j < m → gt par (itr par v j) ≠ itr par v j) : m ≤ n := by
  have := inj_le (n := n) (itr par v) m (fun j hj => (itr_facts d hv j fun i hi => h i (by omega)).1) (fun i j hi hj => itr_ne d hv h hi (by omega))
  rw [← this]
  exact cntB_le _ _

/-- The blocks that finding may touch. -/
structure FrT (o : TOb) (h h' : Hp) : Prop where
  size : h.size ≤ h'.size
  blk : ∀ c, c < h.size → c ≠ o.p → c ≠ o.q → h'.blk c = h.blk c

theorem find_spec (d : TSx h o w t R par siz M W a0 a1 cnt L lea rk P) {v : Nat} (hv : v < w * t) (K : Int → Int → Int → Hp → Prop)
    (hK : ∀ h' par' M' r, TSx h' o w t R par' siz M' W a0 a1 cnt L lea rk P → FrT o h h' → r < w * t → gt par' r = r → gt L r = gt L v → (∀ i, i < w * t → gt par i = i → gt par' i = i) → K (r : Nat) (P false v) (P true v) h') :
    g_wrapping_Torus_find (some ⟨o.a, 0, none⟩) (v : Nat) h K := by
  have hn := d.wt
  have ia := d.ia; have ip := d.ip; have iq := d.iq; have hhi := d.hi
  have pq := d.pq
  unfold g_wrapping_Torus_find
  refine alo_of fun h2 z2 b2 k2 => alo_of fun h4 z4 b4 k4 => alo_of fun h6 z6 b6 k6 => ?_
  simp only [add_mk, Nat.zero_add]
  refine stc_of b6 (by simp) fun h7 z7 b7 k7 => ?_
  simp only [List.set_cons_zero] at b7
  unfold jn
  have fr7 : Fr h.size h h7 := ⟨by omega, fun c hc => by rw [k7 _ (by omega), k6 _ (by omega), k4 _ (by omega), k2 _ (by omega)]⟩
  have e1 : h7.blk h.size = some (.cells [.pointer (some ⟨o.a, 0, none⟩)]) := by rw [k7 _ (by omega), k6 _ (by omega), k4 _ (by omega), b2]
  have e3 : h7.blk h2.size = some (.cells [.int .i64 0, .int .i64 0]) := by rw [k7 _ (by omega), k6 _ (by omega), b4]
  -- up
  refine loop_of (fun fuel (s : Sl × Unit) h9 => ∃ m, (∀ j, j < m → gt par (itr par v j) ≠ itr par v j) ∧ rk (itr par v m) ≤ fuel ∧ Lst h9 1 s.1 (ints (nats ((List.range m).map (itr par v)))) h7.size ∧ h7.size ≤ h9.size ∧ (∀ c, c < h4.size → h9.blk c = h7.blk c) ∧
    h9.blk h4.size = some (.cells [.int .i64 (itr par v m : Nat)])) ?_ (n := rk v) ⟨0, fun j hj => by omega, Nat.le_refl _, Lst.nil _ _ _, Nat.le_refl _, fun _ _ => rfl, b7⟩
  rintro fuel K1 ⟨s, u⟩ h9 ⟨m, hp, hf, hl, hz, hk, bx⟩ hK1
  obtain ⟨hx, hLx, hrx⟩ := itr_facts d.inv hv m hp
  have hml := itr_le d.inv hv hp
  have fr9 : Fr h.size h h9 := ⟨by have := fr7.size; omega, fun c hc => by rw [hk _ (by omega), fr7.blk _ hc]⟩
  have d9 := d.fr fr9
  have g1 : h9.blk h.size = some (.cells [.pointer (some ⟨o.a, 0, none⟩)]) := by rw [hk _ (by omega), e1]
  have g3 : h9.blk h2.size = some (.cells [.int .i64 0, .int .i64 0]) := by rw [hk _ (by omega), e3]
  simp only at hl ⊢
  refine ldP_of (by rw [cell_own g1]; rfl) (nn_of ?_)
  simp only [add_mk, Nat.zero_add]
  refine ldS_of (by rw [d9.cell]; rfl) (ldI_of (by rw [cell_own bx]; rfl) (ix_of (by omega) (by first | omega | (simp only; omega)) ?_))
  simp only [add_mk, Nat.zero_add, Nat.mul_one, show Int.toNat (itr par v m : Int) = itr par v m from rfl]
  refine ldI_of (d9.cp hx) (ldI_of (by rw [cell_own bx]; rfl) (cnd_of (fun c => ?_) fun c => ?_))
  · -- one further
    have hne : gt par (itr par v m) ≠ itr par v m := fun e => by simp only [bne_iff_ne, ne_eq] at c; exact c (congrArg Int.ofNat e)
    refine ldI_of (by rw [cell_own bx]; rfl) ?_
    have hsn : s.n = m := by have := hl.1; rw [ints_len, nats_len] at this; simp at this; exact this
    refine app1_spec hl hz (by omega) fun s' h11 hl' hz' hk' => ?_
    have l4 : ∀ c, c < h7.size → nb s c := fun c hc x hx e => by have := (hl.blk_lt hx).1; omega
    have g1' : h11.blk h.size = some (.cells [.pointer (some ⟨o.a, 0, none⟩)]) := by rw [(hk' _ (by omega) (l4 _ (by omega))).1, g1]
    have bx' : h11.blk h4.size = some (.cells [.int .i64 (itr par v m : Nat)]) := by rw [(hk' _ (by omega) (l4 _ (by omega))).1, bx]
    have fr11 : Fr h.size h h11 := ⟨by have := fr9.size; omega, fun c hc => by rw [(hk' _ (by have := fr9.size; omega) (l4 _ (by omega))).1, fr9.blk _ hc]⟩
    have d11 := d.fr fr11
    refine ldP_of (by rw [cell_own g1']; rfl) (nn_of ?_)
    simp only [add_mk, Nat.zero_add]
    refine ldS_of (by rw [d11.cell]; rfl) (ldI_of (by rw [cell_own bx']; rfl) (ix_of (by omega) (by first | omega | (simp only; omega)) ?_))
    simp only [add_mk, Nat.zero_add, Nat.mul_one, show Int.toNat (itr par v m : Int) = itr par v m from rfl]
    refine ldI_of (d11.cp hx) (stc_of bx' (by simp) fun h12 z12 b12 k12 => ?_)
    have hlt := d.inv.d.rk (itr par v m) (by rw [d.inv.nl]; exact hx) hne
    have hs4 : nb s' h4.size := (hk' _ (by omega) (l4 _ (by omega))).2
    refine hK1 (fuel - 1) (by omega) _ _ ⟨m + 1, fun j hj => ?_, ?_, ?_, by omega, fun c hc => ?_, ?_⟩
    · by_cases e : j = m
      · subst e; exact hne
      · exact hp j (by omega)
    · show rk (gt par (itr par v m)) ≤ fuel - 1; omega
    · have : (ints (nats ((List.range (m + 1)).map (itr par v)))) = ints (nats ((List.range m).map (itr par v)) ++ [(itr par v m : Int)]) := by
        rw [List.range_succ, List.map_append, nats_app]; rfl
      rw [this]
      exact hl'.keep (by omega) fun x hx' => k12 _ fun e => hs4 x hx' e.symm
    · rw [k12 _ (by omega), (hk' _ (by omega) (l4 _ (by omega))).1, hk _ hc]
    · rw [b12]; rfl
  · -- the root
    have rr : gt par (itr par v m) = itr par v m := by simp only [bne_eq_false_iff_eq] at c; exact Int.ofNat.inj c
    generalize hr : itr par v m = r at *
    refine alo_of fun h12 z12 b12 k12 => alo_of fun h14 z14 b14 k14 => stc_of b14 (by simp) fun h15 z15 b15 k15 => ?_
    simp only [List.set_cons_zero] at b15
    unfold g_slices_Backward_int
    refine alo_of fun h17 z17 b17 k17 => fun rec => ?_
    have hmm : (List.map (itr par v) (List.range m)).length = m := by simp
    have hgm : ∀ j, j < m → (nats ((List.range m).map (itr par v))).getD j 0 = (itr par v j : Nat) := fun j hj => by
      rw [nats_getD]; simp [List.getD, hj]
    have hsn : s.n = m := by have := hl.1; rw [ints_len, nats_len, hmm] at this; omega
    have hroot : ∀ k, P k r = 0 := fun k => d.inv.p0 r hx rr k
    have hitm : ∀ j, j < m → itr par v j < w * t ∧ gt L (itr par v j) = gt L v := fun j hj => by
      have := itr_facts d.inv hv j fun i hi => hp i (by omega); exact ⟨this.1, this.2.1⟩
    have hne : ∀ i j, i < j → j ≤ m → itr par v i ≠ itr par v j := fun i j => itr_ne d.inv hv hp
    -- the heap when the walk back begins
    obtain ⟨H0, hH0⟩ : ∃ H0, H0 = (h17.pushB none).pushB (some (.lp rec)) := ⟨_, rfl⟩
    have HK : ∀ c, c < h17.size → H0.blk c = h17.blk c := fun c hc => by
      rw [hH0]; simp only [Hp.pushB, if_neg (show ¬ c = h17.size + 1 by omega), if_neg (show ¬ c = h17.size by omega)]
    have HL : H0.blk (h17.size + 1) = some (.lp rec) := by rw [hH0]; simp [Hp.pushB]
    have HS : H0.size = h17.size + 2 := by rw [hH0]; rfl
    have ks : ∀ c, c < h9.size → H0.blk c = h9.blk c := fun c hc => by
      rw [HK _ (by omega), k17 _ (by omega), k15 _ (by omega), k14 _ (by omega), k12 _ hc]
    rw [← hH0]
    have f12 : H0.blk h9.size = some (.cells [.int .i64 0, .int .i64 0]) := by
      rw [HK _ (by omega), k17 _ (by omega), k15 _ (by omega), k14 _ (by omega), b12]
    have f14 : H0.blk h12.size = some (.cells [.func (.func 56) #[] #[.pointer (some ⟨h.size, 0, none⟩), .pointer (some ⟨h9.size, 0, none⟩), .pointer (some ⟨h4.size, 0, none⟩)]]) := by
      rw [HK _ (by omega), k17 _ (by omega), b15]
    have f17 : H0.blk h15.size = some (.cells [.slice s.a s.n s.c]) := by rw [HK _ (by omega), b17]
    have hl0 : Lst H0 1 s (ints (nats ((List.range m).map (itr par v)))) h7.size := hl.keep (by omega) fun x hx' => ks _ (hl.blk_lt hx').2.1
    refine backward_spec (s := s) (M := nats ((List.range m).map (itr par v))) (by rw [nats_len, hmm]; omega) (fun k h' => k ≤ m ∧ ∃ par' M', TSx h' o w t R par' siz M' W a0 a1 cnt L lea rk P ∧ H0.size ≤ h'.size ∧
      (∀ c, c < H0.size → c ≠ o.p → c ≠ o.q → c ≠ h9.size → h'.blk c = H0.blk c) ∧
      h'.blk h9.size = some (.cells [.int .i64 (P false (itr par v (m - k))), .int .i64 (P true (itr par v (m - k)))]) ∧
      (∀ j, j < m - k → gt par' (itr par v j) = itr par v (j + 1)) ∧ (∀ i, i < w * t → gt par i = i → gt par' i = i)) (by rw [nats_len, hmm]; exact hsn) ?_ ?_ ?_ ?_
    · -- the list lies
      rintro k h' ⟨hkm, par', M', d', z', kk, bs', un, rt⟩
      refine ⟨by rw [cell_own ((kk _ (by omega) (by omega) (by omega) (by omega)).trans f17)]; rfl, ?_⟩
      refine (hl0.keep z' fun x hx' => ?_).rd
      have := hl.blk_lt hx'
      exact kk _ (by omega) (by omega) (by omega) (by omega)
    · -- one round
      rintro k h' Kr hk' ⟨hkm, par', M', d', z', kk, bs', un, rt⟩ hKr
      rw [nats_len, hmm] at hk' ⊢
      rw [hgm _ (by omega)]
      obtain ⟨j, hj⟩ : ∃ j, j = m - 1 - k := ⟨_, rfl⟩
      rw [← hj]
      have hjm : j < m := by omega
      have ej : m - k = j + 1 := by omega
      rw [ej] at bs' un
      have lpr : h'.blk (h17.size + 1) = some (.lp rec) := by rw [kk _ (by omega) (by omega) (by omega) (by omega), HL]
      show lpIs h' (h17.size + 1) rec (lpIs h' (h17.size + 1) rec (lpSet h' (h17.size + 1) (bsy rec) _))
      refine ⟨lpr, lpr, ?_⟩
      unfold lpSet
      obtain ⟨h24, h24e⟩ : ∃ h24, h24 = h'.upd (h17.size + 1) (some (.lp (bsy rec))) := ⟨_, rfl⟩
      rw [← h24e]
      have z24 : h24.size = h'.size := by rw [h24e]; rfl
      have k24 : ∀ c, c ≠ h17.size + 1 → h24.blk c = h'.blk c := fun c hc => by rw [h24e]; simp only [Hp.upd]; rw [if_neg hc]
      have l24 : h24.blk (h17.size + 1) = some (.lp (bsy rec)) := by rw [h24e]; simp [Hp.upd]
      refine ⟨_, by rw [cell_own ((k24 _ (by omega)).trans ((kk _ (by omega) (by omega) (by omega) (by omega)).trans f14))]; rfl, rfl, ?_⟩
      show g_wrapping_Torus_find_f1 (itr par v j : Nat) ⟨h.size, 0, none⟩ ⟨h9.size, 0, none⟩ ⟨h4.size, 0, none⟩ h24 _
      have hju : gt par' (itr par v j) = itr par v (j + 1) := un j (by omega)
      have hjn : gt par' (itr par v j) ≠ itr par v j := by rw [hju]; exact fun e => hne j (j + 1) (by omega) (by omega) e.symm
      have d24 : TSx h24 o w t R par' siz M' W a0 a1 cnt L lea rk P := d'.keep (by omega) fun c hc1 hc2 => k24 _ (by omega)
      refine find1_spec d24 (r := r) (hitm j hjm).1 hjn hx (rt r hx rr) (by rw [hLx, (hitm j hjm).2]) (by omega) (by omega) (by omega) (by omega) (by omega) (by omega)
        (by rw [k24 _ (by omega), kk _ (by omega) (by omega) (by omega) (by omega), ks _ (by omega), g1]) (by rw [k24 _ (by omega), bs', hju]) (by rw [k24 _ (by omega), kk _ (by omega) (by omega) (by omega) (by omega), ks _ (by omega), bx]) _ fun h27 d27 b27 z27 k27 => ?_
      have l27 : h27.blk (h17.size + 1) = some (.lp (bsy rec)) := by rw [k27 _ (by omega) (by omega) (by omega) (by omega), l24]
      refine ⟨l27, ?_⟩
      obtain ⟨h28, h28e⟩ : ∃ h28, h28 = h27.upd (h17.size + 1) (some (.lp rec)) := ⟨_, rfl⟩
      have z28 : h28.size = h27.size := by rw [h28e]; rfl
      have k28 : ∀ c, c ≠ h17.size + 1 → h28.blk c = h27.blk c := fun c hc => by rw [h28e]; simp only [Hp.upd]; rw [if_neg hc]
      have l28 : h28.blk (h17.size + 1) = some (.lp rec) := by rw [h28e]; simp [Hp.upd]
      show Kr true (h27.upd (h17.size + 1) (some (.lp rec)))
      rw [← h28e]
      refine hKr h28 ⟨by omega, _, _, d27.keep (by omega) (fun c hc1 hc2 => k28 _ (by omega)), by omega, fun c hc hcp hcq hc9 => ?_, ?_, fun i hi => ?_, fun i hi hr' => ?_⟩
      · by_cases e : c = h17.size + 1
        · rw [e, l28, HL]
        · rw [k28 _ e, k27 _ (by omega) hcp hcq hc9, k24 _ e, kk _ hc hcp hcq hc9]
      · rw [k28 _ (by omega), b27, show m - (k + 1) = j by omega]
      · rw [gt_set, if_neg, un i (by omega)]
        rintro ⟨e, -⟩
        exact hne i j (by omega) (by omega) e.symm
      · rw [gt_set, if_neg, rt i hi hr']
        rintro ⟨e, -⟩
        exact hjn (by rw [e]; exact rt i hi hr')
    · -- behind it
      rintro h' ⟨_, par', M', d', z', kk, bs', un, rt⟩
      rw [nats_len, hmm, Nat.sub_self] at bs'
      have lpr : h'.blk (h17.size + 1) = some (.lp rec) := by rw [kk _ (by omega) (by omega) (by omega) (by omega), HL]
      refine ⟨lpr, ?_⟩
      unfold lpSet
      obtain ⟨h30, h30e⟩ : ∃ h30, h30 = h'.upd (h17.size + 1) (some (.lp (exh rec))) := ⟨_, rfl⟩
      rw [← h30e]
      have z30 : h30.size = h'.size := by rw [h30e]; rfl
      have k30 : ∀ c, c ≠ h17.size + 1 → h30.blk c = h'.blk c := fun c hc => by rw [h30e]; simp only [Hp.upd]; rw [if_neg hc]
      have bx30 : h30.blk h4.size = some (.cells [.int .i64 (r : Nat)]) := by rw [k30 _ (by omega), kk _ (by omega) (by omega) (by omega) (by omega), ks _ (by omega), bx]
      have b30 : h30.blk h9.size = some (.cells [.int .i64 (P false v), .int .i64 (P true v)]) := by rw [k30 _ (by omega), bs']; rfl
      have g30 : h30.blk h2.size = some (.cells [.int .i64 0, .int .i64 0]) := by rw [k30 _ (by omega), kk _ (by omega) (by omega) (by omega) (by omega), ks _ (by omega), g3]
      simp only [add_mk, Nat.zero_add]
      refine ldI_of (by rw [cell_own bx30]; rfl) (ldI_of (by rw [cell_own b30]; rfl) (ldI_of (by rw [cell_own b30]; rfl) (stc_of g30 (by simp) fun h34 z34 b34 k34 => stc_of b34 (by simp) fun h35 z35 b35 k35 => ?_)))
      refine ldI_of (by rw [cell_own b35]; rfl) (ldI_of (by rw [cell_own b35]; rfl) ?_)
      refine hK h35 par' M' r (d'.keep (by omega) fun c hc1 hc2 => by rw [k35 _ (by omega), k34 _ (by omega), k30 _ (by omega)]) ⟨by omega, fun c hc hcp hcq => ?_⟩ hx (rt r hx rr) hLx rt
      rw [k35 _ (by omega), k34 _ (by omega), k30 _ (by omega), kk _ (by omega) hcp hcq (by omega), ks _ (by omega), fr9.blk _ hc]
    · exact ⟨by omega, par, M, d9.keep (by omega) (fun c hc1 hc2 => ks _ (by omega)), by omega, fun _ _ _ _ _ => rfl, by rw [f12, Nat.sub_zero, hr, hroot, hroot], fun j hj => rfl, fun i hi h => h⟩

end
end Go.Hx
