/- Walks with displacements, and union-find with displacements by lists. Plain; no program. No condition. -/
import Derived.Test.YtdponlecglgmbaaHxDsuT
namespace Go.Hx
set_option linter.unusedSimpArgs false
set_option linter.unusedVariables false

/-- One of the two coordinates. -/
def pr (k : Bool) (x y : Int) : Int := match k with
  | true => y
  | false => x

theorem pr_add (k : Bool) (x y s t : Int) : pr k (x + s) (y + t) = pr k x y + pr k s t := by cases k <;> rfl
theorem pr_sub (k : Bool) (x y s t : Int) : pr k (x - s) (y - t) = pr k x y - pr k s t := by cases k <;> rfl
theorem pr_neg (k : Bool) (x y : Int) : pr k (-x) (-y) = - pr k x y := by cases k <;> rfl
theorem pr_zero (k : Bool) : pr k 0 0 = 0 := by cases k <;> rfl

abbrev ER := Nat → Nat → Int → Int → Prop

/-- A walk along edges, there or back, with its displacement. -/
inductive Wk (R : ER) : Nat → Nat → Int → Int → Prop
  | refl (a : Nat) : Wk R a a 0 0
  | fwd {a b c : Nat} {x y s t : Int} : Wk R a b x y → R b c s t → Wk R a c (x + s) (y + t)
  | bwd {a b c : Nat} {x y s t : Int} : Wk R a b x y → R c b s t → Wk R a c (x - s) (y - t)

theorem Wk.cast {R : ER} {a b : Nat} {x y s t : Int} (h : Wk R a b x y) (h1 : x = s) (h2 : y = t) : Wk R a b s t := by subst h1 h2; exact h

theorem Wk.trans {R : ER} {a b c : Nat} {x y s t : Int} (h : Wk R a b x y) (g : Wk R b c s t) : Wk R a c (x + s) (y + t) := by
  induction g with
  | refl => exact h.cast (by omega) (by omega)
  | fwd _ e ih => exact (Wk.fwd ih e).cast (by omega) (by omega)
  | bwd _ e ih => exact (Wk.bwd ih e).cast (by omega) (by omega)

theorem Wk.one {R : ER} {a b : Nat} {s t : Int} (e : R a b s t) : Wk R a b s t := (Wk.fwd (Wk.refl a) e).cast (by omega) (by omega)
theorem Wk.back {R : ER} {a b : Nat} {s t : Int} (e : R a b s t) : Wk R b a (-s) (-t) := (Wk.bwd (Wk.refl b) e).cast (by omega) (by omega)

theorem Wk.symm {R : ER} {a b : Nat} {x y : Int} (h : Wk R a b x y) : Wk R b a (-x) (-y) := by
  induction h with
  | refl => exact (Wk.refl a).cast (by omega) (by omega)
  | fwd _ e ih => exact ((Wk.back e).trans ih).cast (by omega) (by omega)
  | bwd _ e ih => exact ((Wk.one e).trans ih).cast (by omega) (by omega)

theorem Wk.mono {R R' : ER} (hR : ∀ u v s t, R u v s t → R' u v s t) {a b : Nat} {x y : Int} (h : Wk R a b x y) : Wk R' a b x y := by
  induction h with
  | refl => exact .refl a
  | fwd _ e ih => exact .fwd ih (hR _ _ _ _ e)
  | bwd _ e ih => exact .bwd ih (hR _ _ _ _ e)

/-- Where a potential fits the edges of a part that they do not leave, walks have its differences. -/
theorem Wk.pot {R : ER} (k : Bool) (Q : Nat → Prop) (p : Nat → Int) (hq : ∀ b c s t, R b c s t → (Q b ↔ Q c)) (hp : ∀ b c s t, R b c s t → Q b → p b = p c + pr k s t)
    {a b : Nat} {x y : Int} (h : Wk R a b x y) (ha : Q a) : Q b ∧ p a = p b + pr k x y := by
  induction h with
  | refl => exact ⟨ha, by rw [pr_zero]; omega⟩
  | fwd _ e ih =>
    obtain ⟨h1, h2⟩ := ih
    have := hp _ _ _ _ e h1
    exact ⟨(hq _ _ _ _ e).1 h1, by rw [pr_add]; omega⟩
  | bwd _ e ih =>
    obtain ⟨h1, h2⟩ := ih
    have h3 := (hq _ _ _ _ e).2 h1
    have := hp _ _ _ _ e h3
    exact ⟨h3, by rw [pr_sub]; omega⟩

theorem Wk.const {R : ER} (Q : Nat → Prop) (hq : ∀ b c s t, R b c s t → (Q b ↔ Q c)) {a b : Nat} {x y : Int} (h : Wk R a b x y) : Q a ↔ Q b := by
  induction h with
  | refl => exact Iff.rfl
  | fwd _ e ih => exact ih.trans (hq _ _ _ _ e)
  | bwd _ e ih => exact ih.trans (hq _ _ _ _ e).symm

def Conn (R : ER) (a b : Nat) : Prop := ∃ x y, Wk R a b x y
/-- Some closed walk has a displacement that is not 0 in a direction. -/
def WrapC (R : ER) (v : Nat) (k : Bool) : Prop := ∃ x y, Wk R v v x y ∧ pr k x y ≠ 0

theorem Conn.refl {R : ER} (a : Nat) : Conn R a a := ⟨0, 0, .refl a⟩
theorem Conn.symm {R : ER} {a b : Nat} (h : Conn R a b) : Conn R b a := by obtain ⟨x, y, h⟩ := h; exact ⟨_, _, h.symm⟩
theorem Conn.trans {R : ER} {a b c : Nat} (h : Conn R a b) (g : Conn R b c) : Conn R a c := by
  obtain ⟨x, y, h⟩ := h; obtain ⟨s, t, g⟩ := g; exact ⟨_, _, h.trans g⟩
theorem Conn.one {R : ER} {a b : Nat} {s t : Int} (e : R a b s t) : Conn R a b := ⟨s, t, .one e⟩
theorem Conn.mono {R R' : ER} (hR : ∀ u v s t, R u v s t → R' u v s t) {a b : Nat} (h : Conn R a b) : Conn R' a b := by obtain ⟨x, y, h⟩ := h; exact ⟨x, y, h.mono hR⟩
theorem WrapC.move {R : ER} {a b : Nat} {k : Bool} (h : WrapC R a k) (c : Conn R a b) : WrapC R b k := by
  obtain ⟨x, y, h, hk⟩ := h
  obtain ⟨s, t, c⟩ := c
  refine ⟨_, _, (c.symm.trans h).trans c, ?_⟩
  rw [pr_add, pr_add, pr_neg]; omega
theorem WrapC.mono {R R' : ER} (hR : ∀ u v s t, R u v s t → R' u v s t) {a : Nat} {k : Bool} (h : WrapC R a k) : WrapC R' a k := by obtain ⟨x, y, h, hk⟩ := h; exact ⟨x, y, h.mono hR, hk⟩

theorem Conn.congr {R R' : ER} (hR : ∀ u v s t, R u v s t ↔ R' u v s t) (a b : Nat) : Conn R a b ↔ Conn R' a b :=
  ⟨fun h => h.mono fun u v s t => (hR u v s t).1, fun h => h.mono fun u v s t => (hR u v s t).2⟩

/-- Components among the first numbers. -/
noncomputable def compN (n : Nat) (R : ER) : Nat := cntB n fun v => @decide (∀ u, u < v → ¬ Conn R u v) (Classical.propDecidable _)

theorem compN_congr {n : Nat} {R R' : ER} (h : ∀ a b, a < n → b < n → (Conn R a b ↔ Conn R' a b)) : compN n R = compN n R' := by
  refine cntB_congr fun v hv => ?_
  congr 1
  exact propext ⟨fun g u hu c => g u hu ((h u v (by omega) hv).2 c), fun g u hu c => g u hu ((h u v (by omega) hv).1 c)⟩

/-- One edge more. -/
def addE (R : ER) (a b : Nat) (p q : Int) : ER := fun u v s t => R u v s t ∨ (u = a ∧ v = b ∧ s = p ∧ t = q)
theorem addE_old {R : ER} {a b : Nat} {p q : Int} (u v : Nat) (s t : Int) (h : R u v s t) : addE R a b p q u v s t := .inl h
theorem addE_new (R : ER) (a b : Nat) (p q : Int) : addE R a b p q a b p q := .inr ⟨rfl, rfl, rfl, rfl⟩

/-- The lists of a torus against its edges: parents, sizes, displacements to the parents, which components wrap. L: labels; P: displacements to the roots. -/
structure TInv (R : ER) (n : Nat) (par siz : List Nat) (o : Bool → Nat → Int) (wr : Nat → Bool → Bool) (all : Bool → Bool) (cnt : Nat) (L lea : List Nat) (rk : Nat → Nat) (P : Bool → Nat → Int) : Prop where
  d : DInv par siz lea cnt L rk
  nl : L.length = n
  fo : ∀ i, i < n → gt par i ≠ i → ∀ k, o k i = P k i - P k (gt par i)
  p0 : ∀ i, i < n → gt par i = i → ∀ k, P k i = 0
  wk : ∀ i r, i < n → r < n → gt par r = r → gt L r = gt L i → Wk R i r (P false i) (P true i)
  Rb : ∀ u v s t, R u v s t → u < n ∧ v < n
  ed : ∀ u v s t, R u v s t → gt L u = gt L v ∧ ∀ k r, r < n → gt par r = r → gt L r = gt L u → wr r k = false → P k u = P k v + pr k s t
  fw : ∀ r, r < n → gt par r = r → ∀ k, wr r k = true → WrapC R r k
  fa : ∀ k, all k = true ↔ ∃ r, r < n ∧ gt par r = r ∧ wr r k = true
  fb : ∀ i j r k, i < n → j < n → r < n → gt par r = r → gt L r = gt L i → gt L r = gt L j → P k i - P k j + 1 ≤ (gt siz r : Nat)

theorem pr_P (P : Bool → Nat → Int) (k : Bool) (i : Nat) : pr k (P false i) (P true i) = P k i := by cases k <;> rfl

namespace TInv
variable {R : ER} {n : Nat} {par siz : List Nat} {o : Bool → Nat → Int} {wr : Nat → Bool → Bool} {all : Bool → Bool} {cnt : Nat} {L lea : List Nat} {rk : Nat → Nat} {P : Bool → Nat → Int}

theorem root (t : TInv R n par siz o wr all cnt L lea rk P) {i : Nat} (hi : i < n) : ∃ r, r < n ∧ gt par r = r ∧ gt L r = gt L i := by
  have key : ∀ m i, i < n → rk i ≤ m → ∃ r, r < n ∧ gt par r = r ∧ gt L r = gt L i := by
    intro m
    induction m with
    | zero =>
      intro i hi hm
      by_cases h : gt par i = i
      · exact ⟨i, hi, h, rfl⟩
      · have := t.d.rk i (by rw [t.nl]; exact hi) h; omega
    | succ m ih =>
      intro i hi hm
      by_cases h : gt par i = i
      · exact ⟨i, hi, h, rfl⟩
      · have hi' : i < L.length := by rw [t.nl]; exact hi
        have h1 := t.d.rk i hi' h
        have h2 := t.d.lt i hi'
        obtain ⟨r, h3, h4, h5⟩ := ih (gt par i) (by rw [← t.nl]; exact h2) (by omega)
        exact ⟨r, h3, h4, h5.trans (t.d.cls i hi')⟩
  exact key _ i hi (Nat.le_refl _)

theorem root_rk (t : TInv R n par siz o wr all cnt L lea rk P) {i r : Nat} (hi : i < n) (hr : r < n) (rr : gt par r = r) (hl : gt L r = gt L i) (hne : gt par i ≠ i) : rk r < rk i := by
  have key : ∀ m i, i < n → rk i ≤ m → gt L r = gt L i → gt par i ≠ i → rk r < rk i := by
    intro m
    induction m with
    | zero => intro i hi hm _ h; have := t.d.rk i (by rw [t.nl]; exact hi) h; omega
    | succ m ih =>
      intro i hi hm hl h
      have hi' : i < L.length := by rw [t.nl]; exact hi
      have h1 := t.d.rk i hi' h
      have h2 := t.d.lt i hi'
      have h3 := t.d.cls i hi'
      by_cases hp : gt par (gt par i) = gt par i
      · rw [t.d.uni r (gt par i) (by rw [t.nl]; exact hr) h2 rr hp (by rw [h3, hl])]; exact h1
      · have := ih (gt par i) (by rw [← t.nl]; exact h2) (by omega) (by rw [h3, hl]) hp
        omega
  exact key _ i hi (Nat.le_refl _) hl hne

theorem conn (t : TInv R n par siz o wr all cnt L lea rk P) {a b : Nat} (ha : a < n) (hb : b < n) : gt L a = gt L b ↔ Conn R a b := by
  constructor
  · intro h
    obtain ⟨r, h1, h2, h3⟩ := t.root ha
    exact ⟨_, _, (t.wk a r ha h1 h2 h3).trans (t.wk b r hb h1 h2 (h3.trans h)).symm⟩
  · intro ⟨x, y, h⟩
    exact ((h.const (fun c => gt L c = gt L a) (fun b c s u e => by rw [(t.ed b c s u e).1])).1 rfl).symm

theorem wrap (t : TInv R n par siz o wr all cnt L lea rk P) {v r : Nat} (hv : v < n) (hr : r < n) (rr : gt par r = r) (hl : gt L r = gt L v) (k : Bool) : wr r k = true ↔ WrapC R v k := by
  constructor
  · intro h
    exact (t.fw r hr rr k h).move ((t.conn hr hv).1 hl)
  · intro ⟨x, y, h, hk⟩
    cases hw : wr r k with
    | true => rfl
    | false =>
      exfalso
      have := (h.pot k (fun c => gt L c = gt L v) (P k) (fun b c s u e => by rw [(t.ed b c s u e).1]) (fun b c s u e hb => (t.ed b c s u e).2 k r hr rr (hl.trans hb.symm) hw) rfl).2
      omega

theorem allW (t : TInv R n par siz o wr all cnt L lea rk P) (k : Bool) : all k = true ↔ ∃ v, v < n ∧ WrapC R v k := by
  rw [t.fa k]
  constructor
  · intro ⟨r, hr, rr, h⟩; exact ⟨r, hr, t.fw r hr rr k h⟩
  · intro ⟨v, hv, h⟩
    obtain ⟨r, h1, h2, h3⟩ := t.root hv
    exact ⟨r, h1, h2, (t.wrap hv h1 h2 h3 k).2 h⟩

theorem disp (t : TInv R n par siz o wr all cnt L lea rk P) {a b r : Nat} (hr : r < n) (rr : gt par r = r) (hl : gt L r = gt L a) {k : Bool} (hw : wr r k = false) {x y : Int} (h : Wk R a b x y) : pr k x y = P k a - P k b := by
  have := (h.pot k (fun c => gt L c = gt L a) (P k) (fun b c s u e => by rw [(t.ed b c s u e).1]) (fun b c s u e hb => (t.ed b c s u e).2 k r hr rr (hl.trans hb.symm) hw) rfl).2
  omega

theorem bound (t : TInv R n par siz o wr all cnt L lea rk P) {i : Nat} (hi : i < n) (k : Bool) : -(n : Int) < P k i ∧ P k i < n := by
  obtain ⟨r, h1, h2, h3⟩ := t.root hi
  have a := t.fb i r r k hi h1 h1 h2 h3 rfl
  have b := t.fb r i r k h1 hi h1 h2 rfl h3
  rw [t.p0 r h1 h2 k] at a b
  have hs : gt siz r ≤ n := by
    rw [t.d.siz r (by rw [t.nl]; exact h1) h2, t.nl]; exact cntB_le _ _
  omega

theorem count (t : TInv R n par siz o wr all cnt L lea rk P) : cnt = compN n R := by
  rw [t.d.cnt, t.nl]
  refine cntB_congr fun v hv => ?_
  have hv' : v < L.length := by rw [t.nl]; exact hv
  rw [Bool.eq_iff_iff, beq_iff_eq]
  refine Iff.trans ?_ (@decide_eq_true_iff _ (Classical.propDecidable _)).symm
  constructor
  · intro h u hu c
    have := t.d.lab.le u (by omega)
    have := (t.conn (by omega) hv).2 c
    omega
  · intro h
    have h1 := t.d.lab.le v hv'
    have h2 := t.d.lab.idem v hv'
    rcases Nat.lt_or_ge (gt L v) v with h3 | h3
    · exact absurd ((t.conn (by omega) hv).1 h2) (h _ h3)
    · omega

/-- An element is put directly below its root. -/
theorem compress (t : TInv R n par siz o wr all cnt L lea rk P) {u r : Nat} (hu : u < n) (hne : gt par u ≠ u) (hr : r < n) (rr : gt par r = r) (hl : gt L r = gt L u) {o' : Bool → Nat → Int}
    (ho : ∀ k i, i < n → o' k i = if i = u then P k u else o k i) : TInv R n (par.set u r) siz o' wr all cnt L lea rk P := by
  have hrk := t.root_rk hu hr rr hl hne
  have hur : u ≠ r := fun e => hne (by rw [e]; exact rr)
  have g : ∀ i, i < n → gt (par.set u r) i = if u = i then r else gt par i := fun i hi => by
    rw [gt_set]
    by_cases h : u = i
    · rw [if_pos ⟨h, by rw [t.d.lp, t.nl]; exact hi⟩, if_pos h]
    · rw [if_neg (fun k => h k.1), if_neg h]
  have back : ∀ i, i < n → gt (par.set u r) i = i → gt par i = i := fun i hi h => by
    rw [g i hi] at h
    split at h
    · omega
    · exact h
  have forth : ∀ i, i < n → gt par i = i → gt (par.set u r) i = i := fun i hi h => by
    rw [g i hi, if_neg]
    · exact h
    · intro e; subst e; exact hne h
  have ln : ∀ {i}, i < L.length → i < n := fun h => by rw [t.nl] at h; exact h
  refine ⟨⟨by simp [t.d.lp], t.d.ls, t.d.ll, t.d.lab, fun i hi => ?_, fun i hi hn => ?_, fun i hi => ?_, fun i j hi hj ri rj => t.d.uni i j hi hj (back i (ln hi) ri) (back j (ln hj) rj), fun i hi ri => t.d.lea i hi (back i (ln hi) ri),
    fun i hi ri => t.d.siz i hi (back i (ln hi) ri), t.d.cnt⟩, t.nl, fun i hi hn k => ?_, fun i hi ri k => t.p0 i hi (back i hi ri) k, fun i r' hi hr' rr' hl' => t.wk i r' hi hr' (back r' hr' rr') hl', t.Rb,
    fun u v s w e => ⟨(t.ed u v s w e).1, fun k r' hr' rr' => (t.ed u v s w e).2 k r' hr' (back r' hr' rr')⟩, fun r' hr' rr' => t.fw r' hr' (back r' hr' rr'), fun k => ?_, fun i j r' k hi hj hr' rr' => t.fb i j r' k hi hj hr' (back r' hr' rr')⟩
  · rw [g i (ln hi)]; split
    · rw [t.nl]; exact hr
    · exact t.d.lt i hi
  · rw [g i (ln hi)] at hn ⊢
    by_cases h : u = i
    · rw [if_pos h] at hn ⊢; rw [← h]; exact hrk
    · rw [if_neg h] at hn ⊢; exact t.d.rk i hi hn
  · rw [g i (ln hi)]; split
    · rename_i h; rw [← h]; exact hl
    · exact t.d.cls i hi
  · rw [g i hi] at hn ⊢
    rw [ho k i hi]
    by_cases h : u = i
    · subst h
      rw [if_pos rfl, if_pos rfl, t.p0 r hr rr k]; omega
    · rw [if_neg h] at hn ⊢; rw [if_neg (fun e => h e.symm)]; exact t.fo i hi hn k
  · rw [t.fa k]
    exact ⟨fun ⟨r', h1, h2, h3⟩ => ⟨r', h1, forth r' h1 h2, h3⟩, fun ⟨r', h1, h2, h3⟩ => ⟨r', h1, back r' h1 h2, h3⟩⟩

/-- An edge within a component. -/
theorem close (t : TInv R n par siz o wr all cnt L lea rk P) {a b r : Nat} {p q : Int} (ha : a < n) (hb : b < n) (hr : r < n) (rr : gt par r = r) (la : gt L r = gt L a) (lb : gt L r = gt L b)
    {wr' : Nat → Bool → Bool} {all' : Bool → Bool} (hw : ∀ i k, i < n → wr' i k = (wr i k || (decide (i = r) && decide (pr k p q + P k b - P k a ≠ 0)))) (hall : ∀ k, all' k = (all k || decide (pr k p q + P k b - P k a ≠ 0))) :
    TInv (addE R a b p q) n par siz o wr' all' cnt L lea rk P := by
  refine ⟨t.d, t.nl, t.fo, t.p0, fun i r' hi hr' rr' hl' => (t.wk i r' hi hr' rr' hl').mono addE_old, fun u v s w e => ?_, fun u v s w e => ?_, fun r' hr' rr' k h => ?_, fun k => ?_, t.fb⟩
  · rcases e with e | ⟨rfl, rfl, -, -⟩
    · exact t.Rb _ _ _ _ e
    · exact ⟨ha, hb⟩
  · rcases e with e | ⟨rfl, rfl, rfl, rfl⟩
    · refine ⟨(t.ed _ _ _ _ e).1, fun k r' hr' rr' hl' h => (t.ed _ _ _ _ e).2 k r' hr' rr' hl' ?_⟩
      rw [hw r' k hr'] at h
      simp only [Bool.or_eq_false_iff] at h
      exact h.1
    · refine ⟨la.symm.trans lb, fun k r' hr' rr' hl' h => ?_⟩
      have : r' = r := t.d.uni r' r (by rw [t.nl]; exact hr') (by rw [t.nl]; exact hr) rr' rr (hl'.trans la.symm)
      subst this
      rw [hw r' k hr'] at h
      simp only [Bool.or_eq_false_iff, Bool.and_eq_false_iff, decide_eq_false_iff_not, not_true_eq_false, false_or, Decidable.not_not] at h
      omega
  · rw [hw r' k hr'] at h
    simp only [Bool.or_eq_true, Bool.and_eq_true, decide_eq_true_eq] at h
    rcases h with h | ⟨rfl, h⟩
    · exact (t.fw r' hr' rr' k h).mono addE_old
    · have w1 := (t.wk a r' ha hr rr la).mono (addE_old (a := a) (b := b) (p := p) (q := q))
      have w2 := (t.wk b r' hb hr rr lb).mono (addE_old (a := a) (b := b) (p := p) (q := q))
      refine ⟨_, _, (w1.symm.trans (.one (addE_new R a b p q))).trans w2, ?_⟩
      rw [pr_add, pr_add, pr_neg, pr_P, pr_P]; omega
  · rw [hall k, Bool.or_eq_true, decide_eq_true_eq, t.fa k]
    constructor
    · rintro (⟨r', h1, h2, h3⟩ | h)
      · exact ⟨r', h1, h2, by rw [hw r' k h1, h3]; rfl⟩
      · exact ⟨r, hr, rr, by rw [hw r k hr]; simp [h]⟩
    · intro ⟨r', h1, h2, h3⟩
      rw [hw r' k h1] at h3
      simp only [Bool.or_eq_true, Bool.and_eq_true, decide_eq_true_eq] at h3
      rcases h3 with h3 | ⟨_, h3⟩
      · exact .inl ⟨r', h1, h2, h3⟩
      · exact .inr h3

/-- A root goes below another one. -/
theorem hang (t : TInv R n par siz o wr all cnt L lea rk P) {a b x y : Nat} {p q : Int} {w : Bool → Int} (ha : a < n) (hb : b < n) (hx : x < n) (hy : y < n) (rx : gt par x = x) (ry : gt par y = y) (hxy : x ≠ y) (hst : ∀ k, -1 ≤ pr k p q ∧ pr k p q ≤ 1)
    (hab : gt L x = gt L a ∧ gt L y = gt L b ∧ (∀ k, w k = pr k p q + P k b - P k a) ∨ gt L x = gt L b ∧ gt L y = gt L a ∧ ∀ k, w k = - (pr k p q + P k b - P k a))
    {o' : Bool → Nat → Int} (ho : ∀ k i, i < n → o' k i = if i = x then w k else o k i) {wr' : Nat → Bool → Bool} (hw : ∀ i k, i < n → wr' i k = if i = y then (wr y k || wr x k) else wr i k) :
    1 ≤ cnt ∧ gt siz y + gt siz x ≤ n ∧ ∃ L' lea' rk' P', TInv (addE R a b p q) n (par.set x y) (siz.set y (gt siz y + gt siz x)) o' wr' all (cnt - 1) L' lea' rk' P' := by
  have nl := t.nl
  obtain ⟨h1, h2, rk', d'⟩ := t.d.union (a := y) (b := x) (by rw [nl]; exact hy) (by rw [nl]; exact hx) ry rx (Ne.symm hxy)
  rw [nl] at h2
  refine ⟨h1, h2, mergeL L (gt L y) (gt L x), lea.set y (min (gt lea y) (gt lea x)), rk', fun k i => if gt L i = gt L x then P k i + w k else P k i, ?_⟩
  have hL : gt L x ≠ gt L y := fun e => hxy (t.d.uni x y (by rw [nl]; exact hx) (by rw [nl]; exact hy) rx ry e)
  have g : ∀ i, i < n → gt (par.set x y) i = if x = i then y else gt par i := fun i hi => by
    rw [gt_set]
    by_cases h : x = i
    · rw [if_pos ⟨h, by rw [t.d.lp, nl]; exact hi⟩, if_pos h]
    · rw [if_neg (fun k => h k.1), if_neg h]
  have back : ∀ i, i < n → gt (par.set x y) i = i → gt par i = i ∧ i ≠ x := fun i hi h => by
    rw [g i hi] at h
    by_cases e : x = i
    · rw [if_pos e] at h; omega
    · rw [if_neg e] at h; exact ⟨h, fun k => e k.symm⟩
  have forth : ∀ i, i < n → gt par i = i → i ≠ x → gt (par.set x y) i = i := fun i hi h e => by
    rw [g i hi, if_neg (fun k => e k.symm)]; exact h
  have ml : ∀ i, i < n → gt (mergeL L (gt L y) (gt L x)) i = if gt L i = max (gt L y) (gt L x) then min (gt L y) (gt L x) else gt L i := fun i hi => mergeL_gt _ _ _ (by rw [nl]; exact hi)
  have same : ∀ i j, i < n → j < n → (gt (mergeL L (gt L y) (gt L x)) i = gt (mergeL L (gt L y) (gt L x)) j ↔ (gt L i = gt L j ∨ ((gt L i = gt L x ∨ gt L i = gt L y) ∧ (gt L j = gt L x ∨ gt L j = gt L y)))) := fun i j hi hj => by
    rw [ml i hi, ml j hj]
    split <;> split <;> omega
  -- the walk from x to y
  have wxy : Wk (addE R a b p q) x y (w false) (w true) := by
    have e := Wk.one (addE_new R a b p q)
    rcases hab with ⟨e1, e2, e3⟩ | ⟨e1, e2, e3⟩
    · have w1 := (t.wk a x ha hx rx e1).mono (addE_old (a := a) (b := b) (p := p) (q := q))
      have w2 := (t.wk b y hb hy ry e2).mono (addE_old (a := a) (b := b) (p := p) (q := q))
      refine ((w1.symm.trans e).trans w2).cast ?_ ?_
      · rw [e3]; simp only [pr]; omega
      · rw [e3]; simp only [pr]; omega
    · have w1 := (t.wk a y ha hy ry e2).mono (addE_old (a := a) (b := b) (p := p) (q := q))
      have w2 := (t.wk b x hb hx rx e1).mono (addE_old (a := a) (b := b) (p := p) (q := q))
      refine ((w2.symm.trans e.symm).trans w1).cast ?_ ?_
      · rw [e3]; simp only [pr]; omega
      · rw [e3]; simp only [pr]; omega
  -- whose root is which
  have rootxy : ∀ r' i, r' < n → i < n → gt (par.set x y) r' = r' → gt (mergeL L (gt L y) (gt L x)) r' = gt (mergeL L (gt L y) (gt L x)) i →
      (gt L i = gt L r' ∧ gt L i ≠ gt L x) ∨ (r' = y ∧ gt L i = gt L x) := fun r' i hr' hi rr' hl' => by
    obtain ⟨b1, b2⟩ := back r' hr' rr'
    have nx : gt L r' ≠ gt L x := fun e => b2 (t.d.uni r' x (by rw [nl]; exact hr') (by rw [nl]; exact hx) b1 rx e)
    rcases (same r' i hr' hi).1 hl' with h | ⟨h3, h4⟩
    · exact .inl ⟨h.symm, by rw [← h]; exact nx⟩
    · rcases h3 with h3 | h3
      · exact absurd h3 nx
      · have : r' = y := t.d.uni r' y (by rw [nl]; exact hr') (by rw [nl]; exact hy) b1 ry h3
        rcases h4 with h4 | h4
        · exact .inr ⟨this, h4⟩
        · exact .inl ⟨by rw [h4, h3], by rw [h4]; exact fun e => hL e.symm⟩
  refine ⟨d', by rw [mergeL_len, nl], fun i hi hn k => ?_, fun i hi ri k => ?_, fun i r' hi hr' rr' hl' => ?_, fun u v s z e => ?_, fun u v s z e => ?_, fun r' hr' rr' k h => ?_, fun k => ?_, fun i j r' k hi hj hr' rr' hl1 hl2 => ?_⟩
  · rw [g i hi] at hn ⊢
    rw [ho k i hi]
    by_cases h : x = i
    · subst h
      rw [if_pos rfl] at hn ⊢
      rw [if_pos rfl, if_pos rfl, if_neg (fun e => hL e.symm), t.p0 x hx rx k, t.p0 y hy ry k]; omega
    · rw [if_neg h] at hn ⊢
      rw [if_neg (fun e => h e.symm), t.fo i hi hn k]
      have := t.d.cls i (by rw [nl]; exact hi)
      simp only [this]
      split <;> omega
  · obtain ⟨b1, b2⟩ := back i hi ri
    have nx : gt L i ≠ gt L x := fun e => b2 (t.d.uni i x (by rw [nl]; exact hi) (by rw [nl]; exact hx) b1 rx e)
    simp only [if_neg nx]
    exact t.p0 i hi b1 k
  · rcases rootxy r' i hr' hi rr' hl' with ⟨h3, h4⟩ | ⟨rfl, h4⟩
    · simp only [if_neg h4]
      exact (t.wk i r' hi hr' (back r' hr' rr').1 h3.symm).mono addE_old
    · simp only [if_pos h4]
      exact ((t.wk i x hi hx rx h4.symm).mono addE_old).trans wxy
  · rcases e with e | ⟨rfl, rfl, -, -⟩
    · exact t.Rb _ _ _ _ e
    · exact ⟨ha, hb⟩
  · rcases e with e | ⟨rfl, rfl, rfl, rfl⟩
    · obtain ⟨e1, e2⟩ := t.ed _ _ _ _ e
      obtain ⟨hu, hv⟩ := t.Rb _ _ _ _ e
      refine ⟨(same u v hu hv).2 (.inl e1), fun k r' hr' rr' hl' h => ?_⟩
      rw [hw r' k hr'] at h
      rcases rootxy r' u hr' hu rr' hl' with ⟨h3, h4⟩ | ⟨rfl, h4⟩
      · have h5 : gt L v ≠ gt L x := by rw [← e1]; exact h4
        simp only [if_neg h4, if_neg h5]
        refine e2 k r' hr' (back r' hr' rr').1 h3.symm ?_
        split at h
        · rename_i e; subst e; simp only [Bool.or_eq_false_iff] at h; exact h.1
        · exact h
      · have h5 : gt L v = gt L x := by rw [← e1]; exact h4
        simp only [if_pos h4, if_pos h5]
        rw [if_pos rfl] at h
        simp only [Bool.or_eq_false_iff] at h
        have := e2 k x hx rx h4.symm h.2
        omega
    · rcases hab with ⟨e1, e2, e3⟩ | ⟨e1, e2, e3⟩
      · refine ⟨(same u v ha hb).2 (.inr ⟨.inl e1.symm, .inr e2.symm⟩), fun k r' hr' rr' hl' h => ?_⟩
        have h5 : gt L v ≠ gt L x := by rw [← e2]; exact fun e => hL e.symm
        simp only [if_pos e1.symm, if_neg h5]
        rw [e3 k]; omega
      · refine ⟨(same u v ha hb).2 (.inr ⟨.inr e2.symm, .inl e1.symm⟩), fun k r' hr' rr' hl' h => ?_⟩
        have h5 : gt L u ≠ gt L x := by rw [← e2]; exact fun e => hL e.symm
        simp only [if_pos e1.symm, if_neg h5]
        rw [e3 k]; omega
  · obtain ⟨b1, b2⟩ := back r' hr' rr'
    rw [hw r' k hr'] at h
    split at h
    · rename_i e; subst e
      rw [Bool.or_eq_true] at h
      rcases h with h | h
      · exact (t.fw r' hr' b1 k h).mono addE_old
      · exact ((t.fw x hx rx k h).mono addE_old).move ⟨_, _, wxy⟩
    · exact (t.fw r' hr' b1 k h).mono addE_old
  · rw [t.fa k]
    constructor
    · intro ⟨r', h1, h2, h3⟩
      by_cases e : r' = x
      · subst e
        exact ⟨y, hy, forth y hy ry (Ne.symm hxy), by rw [hw y k hy, if_pos rfl, h3]; simp⟩
      · refine ⟨r', h1, forth r' h1 h2 e, ?_⟩
        rw [hw r' k h1]
        split
        · rename_i e; subst e; rw [h3]; rfl
        · exact h3
    · intro ⟨r', h1, h2, h3⟩
      obtain ⟨b1, b2⟩ := back r' h1 h2
      rw [hw r' k h1] at h3
      split at h3
      · rename_i e; subst e
        rw [Bool.or_eq_true] at h3
        rcases h3 with h3 | h3
        · exact ⟨_, h1, b1, h3⟩
        · exact ⟨x, hx, rx, h3⟩
      · exact ⟨r', h1, b1, h3⟩
  · -- how far two elements of a component are apart
    obtain ⟨b1, b2⟩ := back r' hr' rr'
    have sz : gt (siz.set y (gt siz y + gt siz x)) r' = if r' = y then gt siz y + gt siz x else gt siz r' := by
      rw [gt_set]
      by_cases e : y = r'
      · rw [if_pos ⟨e, by rw [t.d.ls, nl]; exact hr'⟩, if_pos e.symm]
      · rw [if_neg (fun k => e k.1), if_neg (fun k => e k.symm)]
    rw [sz]
    -- the ends of the edge in the two components
    have two : ∃ c d : Nat, c < n ∧ d < n ∧ gt L x = gt L c ∧ gt L y = gt L d ∧ (-1 ≤ w k - (P k d - P k c) ∧ w k - (P k d - P k c) ≤ 1) := by
      have := hst k
      rcases hab with ⟨e1, e2, e3⟩ | ⟨e1, e2, e3⟩
      · exact ⟨a, b, ha, hb, e1, e2, by rw [e3 k]; omega⟩
      · exact ⟨b, a, hb, ha, e1, e2, by rw [e3 k]; omega⟩
    obtain ⟨c, d, hc, hd, lc, ld, st⟩ := two
    rcases rootxy r' i hr' hi rr' hl1 with ⟨i1, i2⟩ | ⟨i1, i2⟩ <;> rcases rootxy r' j hr' hj rr' hl2 with ⟨j1, j2⟩ | ⟨j1, j2⟩
    · simp only [if_neg i2, if_neg j2]
      have := t.fb i j r' k hi hj hr' b1 i1.symm j1.symm
      split
      · rename_i e; subst e; omega
      · exact this
    · subst j1
      simp only [if_neg i2, if_pos j2, if_true]
      have e1 := t.fb i d r' k hi hd hr' b1 i1.symm ld
      have e2 := t.fb c j x k hc hj hx rx lc j2.symm
      omega
    · subst i1
      simp only [if_pos i2, if_neg j2, if_true]
      have e1 := t.fb d j r' k hd hj hr' b1 ld j1.symm
      have e2 := t.fb i c x k hi hc hx rx i2.symm lc
      omega
    · subst i1
      simp only [if_pos i2, if_pos j2, if_true]
      have := t.fb i j x k hi hj hx rx i2.symm j2.symm
      omega

/-- The start. -/
theorem start (n : Nat) : TInv (fun _ _ _ _ => False) n (idL n) (List.replicate n 1) (fun _ _ => 0) (fun _ _ => false) (fun _ => false) n (idL n) (idL n) (fun _ => 0) (fun _ _ => 0) := by
  have l : (idL n).length = n := by simp [idL]
  refine ⟨DInv.start n, l, fun i hi hn => absurd (idL_gt hi) hn, fun _ _ _ _ => rfl, fun i r hi hr _ hl => ?_, fun _ _ _ _ e => e.elim, fun _ _ _ _ e => e.elim, fun r hr _ k h => (by cases h), fun k => ⟨fun h => (by cases h), fun ⟨r, _, _, h⟩ => (by cases h)⟩, fun i j r k hi hj hr _ _ _ => ?_⟩
  case refine_2 => rw [rep_gt hr]; omega
  rw [idL_gt hi, idL_gt hr] at hl
  subst hl
  exact .refl r
end TInv
end Go.Hx
