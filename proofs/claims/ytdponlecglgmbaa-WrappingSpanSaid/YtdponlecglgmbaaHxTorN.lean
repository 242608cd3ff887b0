/- Marking components by passes over the edges, by lists. Plain; no program. No condition. -/
import Derived.Test.YtdponlecglgmbaaHxTorF
namespace Go.Hx
set_option linter.unusedSimpArgs false
set_option linter.unusedVariables false

def gi (l : List Int) (i : Nat) : Int := l.getD i 0

theorem gi_set (l : List Int) (i j : Nat) (v : Int) : gi (l.set i v) j = if i = j ∧ j < l.length then v else gi l j := by
  simp only [gi, List.getD, List.getElem?_set]
  by_cases h : i = j
  · subst h
    by_cases h2 : i < l.length
    · simp [h2]
    · simp [h2]
  · simp [h]

theorem gi_rep {n i : Nat} (v : Int) (h : i < n) : gi (List.replicate n v) i = v := by simp [gi, List.getD, h]

/-- How many are not marked. -/
def cu (n : Nat) (F : List Int) : Nat := cntB n fun v => decide (gi F v < 0)

structure WI (R : ER) (n lim i : Nat) (F X Y : List Int) : Prop where
  lf : F.length = n
  lx : X.length = n
  ly : Y.length = n
  rng : ∀ u, u < n → (gi F u = -1 ∧ gi X u = 0 ∧ gi Y u = 0) ∨ ∃ r : Nat, gi F u = r ∧ r < lim ∧ r ≤ u ∧ Wk R r u (gi X u) (gi Y u)
  clo : ∀ u x s t, R u x s t → (0 ≤ gi F u ∧ gi F u < i) ∨ (0 ≤ gi F x ∧ gi F x < i) → gi F u = gi F x
  bnd : ∀ u, u < n → -(n : Int) ≤ gi X u - cu n F ∧ gi X u + cu n F ≤ n ∧ -(n : Int) ≤ gi Y u - cu n F ∧ gi Y u + cu n F ≤ n
  all : ∀ u, u < i → u < n → 0 ≤ gi F u

namespace WI
variable {R : ER} {n lim i : Nat} {F X Y : List Int}

theorem start (n : Nat) (R : ER) : WI R n 0 0 (List.replicate n (-1)) (List.replicate n 0) (List.replicate n 0) := by
  refine ⟨by simp, by simp, by simp, fun u hu => .inl ⟨gi_rep _ hu, gi_rep _ hu, gi_rep _ hu⟩, fun u x s t e h => by omega, fun u hu => ?_, fun u hu => by omega⟩
  have : cu n (List.replicate n (-1)) ≤ n := cntB_le _ _
  rw [gi_rep _ hu]
  omega

theorem cu_set {k : Nat} {v : Int} (lf : F.length = n) (hk : k < n) (h : gi F k < 0) (hv : 0 ≤ v) : cu n F = cu n (F.set k v) + 1 := by
  refine cntB_del hk (by simpa using h) ?_ fun j hj hjk => ?_
  · rw [gi_set, if_pos ⟨rfl, by omega⟩]; simp; omega
  · rw [gi_set, if_neg (fun e => hjk e.1.symm)]

/-- A component that is begun. -/
theorem root (d : WI R n i i F X Y) (hi : i < n) (h : gi F i < 0) : WI R n (i + 1) i (F.set i (i : Int)) X Y ∧ cu n F = cu n (F.set i (i : Int)) + 1 := by
  have hc := cu_set d.lf hi h (show (0 : Int) ≤ (i : Int) by omega)
  have g : ∀ j, gi (F.set i (i : Int)) j = if i = j then (i : Int) else gi F j := fun j => by
    rw [gi_set, d.lf]
    by_cases e : i = j
    · rw [if_pos ⟨e, by omega⟩, if_pos e]
    · rw [if_neg (fun q => e q.1), if_neg e]
  refine ⟨⟨by simp [d.lf], d.lx, d.ly, fun u hu => ?_, fun u x s t e hq => ?_, fun u hu => ?_, fun u hu hn => ?_⟩, hc⟩
  · rw [g]
    by_cases e : i = u
    · subst e
      rw [if_pos rfl]
      rcases d.rng i hu with ⟨_, e2, e3⟩ | ⟨r, e1, _⟩
      · exact .inr ⟨i, rfl, by omega, by omega, by rw [e2, e3]; exact .refl i⟩
      · omega
    · rw [if_neg e]
      rcases d.rng u hu with q | ⟨r, e1, e2, e3⟩
      · exact .inl q
      · exact .inr ⟨r, e1, by omega, e3⟩
  · rw [g, g] at *
    have := d.clo u x s t e
    by_cases e1 : i = u
    · by_cases e2 : i = x
      · rw [if_pos e1, if_pos e2]
      · rw [if_pos e1, if_neg e2] at hq
        subst e1
        have := this (.inr (by omega)); omega
    · by_cases e2 : i = x
      · rw [if_neg e1, if_pos e2] at hq
        subst e2
        have := this (.inl (by omega)); omega
      · rw [if_neg e1, if_neg e2] at hq ⊢
        exact this hq
  · have := d.bnd u hu
    omega
  · rw [g]
    split
    · omega
    · exact d.all u hu hn

/-- One more in the component at hand. -/
theorem mark (d : WI R n (i + 1) i F X Y) {a b : Nat} {s t : Int} (ha : a < n) (hb : b < n) (fa : gi F a = (i : Int)) (fb : gi F b < 0) (e : Wk R a b s t) (hs : -1 ≤ s ∧ s ≤ 1) (ht : -1 ≤ t ∧ t ≤ 1) :
    WI R n (i + 1) i (F.set b (i : Int)) (X.set b (gi X a + s)) (Y.set b (gi Y a + t)) ∧ cu n F = cu n (F.set b (i : Int)) + 1 := by
  have hc := cu_set d.lf hb fb (show (0 : Int) ≤ (i : Int) by omega)
  have g : ∀ j, gi (F.set b (i : Int)) j = if b = j then (i : Int) else gi F j := fun j => by
    rw [gi_set, d.lf]
    by_cases e : b = j
    · rw [if_pos ⟨e, by omega⟩, if_pos e]
    · rw [if_neg (fun q => e q.1), if_neg e]
  have gx : ∀ j v, gi (X.set b v) j = if b = j then v else gi X j := fun j v => by
    rw [gi_set, d.lx]
    by_cases e : b = j
    · rw [if_pos ⟨e, by omega⟩, if_pos e]
    · rw [if_neg (fun q => e q.1), if_neg e]
  have gy : ∀ j v, gi (Y.set b v) j = if b = j then v else gi Y j := fun j v => by
    rw [gi_set, d.ly]
    by_cases e : b = j
    · rw [if_pos ⟨e, by omega⟩, if_pos e]
    · rw [if_neg (fun q => e q.1), if_neg e]
  have hib : i ≤ b := Nat.le_of_not_lt fun q => by have := d.all b q hb; omega
  refine ⟨⟨by simp [d.lf], by simp [d.lx], by simp [d.ly], fun u hu => ?_, fun u x s' t' e' hq => ?_, fun u hu => ?_, fun u hu hn => ?_⟩, hc⟩
  · rw [g, gx, gy]
    by_cases e1 : b = u
    · subst e1
      simp only [if_true]
      rcases d.rng a ha with ⟨q, _⟩ | ⟨r, e1, _, _, hw⟩
      · omega
      · obtain rfl : r = i := by omega
        exact .inr ⟨r, rfl, by omega, hib, hw.trans e⟩
    · rw [if_neg e1, if_neg e1, if_neg e1]
      exact d.rng u hu
  · rw [g, g] at *
    have := d.clo u x s' t' e'
    by_cases e1 : b = u
    · by_cases e2 : b = x
      · rw [if_pos e1, if_pos e2]
      · rw [if_pos e1, if_neg e2] at hq
        subst e1
        have := this (.inr (by omega)); omega
    · by_cases e2 : b = x
      · rw [if_neg e1, if_pos e2] at hq
        subst e2
        have := this (.inl (by omega)); omega
      · rw [if_neg e1, if_neg e2] at hq ⊢
        exact this hq
  · have q := d.bnd u hu
    have p := d.bnd a ha
    rw [gx, gy]
    split <;> omega
  · rw [g]
    split
    · omega
    · exact d.all u hu hn

/-- The component at hand is whole. -/
theorem whole (d : WI R n (i + 1) i F X Y) (Rb : ∀ u x s t, R u x s t → u < n ∧ x < n) (fi : i < n → 0 ≤ gi F i) (h : ∀ u x s t, R u x s t → (gi F u = (i : Int) → 0 ≤ gi F x) ∧ (gi F x = (i : Int) → 0 ≤ gi F u)) : WI R n (i + 1) (i + 1) F X Y := by
  have rg : ∀ u, u < n → gi F u < (i + 1 : Nat) := fun u hu => by
    rcases d.rng u hu with ⟨q, _⟩ | ⟨r, q, _⟩ <;> omega
  refine ⟨d.lf, d.lx, d.ly, d.rng, fun u x s t e hq => ?_, d.bnd, fun u hu hn => ?_⟩
  · have c := d.clo u x s t e
    obtain ⟨h1, h2⟩ := h u x s t e
    obtain ⟨b1, b2⟩ := Rb u x s t e
    have r1 := rg u b1; have r2 := rg x b2
    by_cases e1 : gi F u = (i : Int)
    · have := h1 e1
      by_cases e2 : gi F x = (i : Int)
      · omega
      · exact c (.inr (by omega))
    · by_cases e2 : gi F x = (i : Int)
      · have := h2 e2
        exact c (.inl (by omega))
      · exact c (by omega)
  · by_cases e : u = i
    · subst e; exact fi hn
    · exact d.all u (by omega) hn

/-- Nothing is to be done. -/
theorem skip (d : WI R n i i F X Y) (Rb : ∀ u x s t, R u x s t → u < n ∧ x < n) (h : 0 ≤ gi F i) : WI R n (i + 1) (i + 1) F X Y := by
  have no : ∀ u, u < n → gi F u ≠ (i : Int) := fun u hu e => by
    rcases d.rng u hu with ⟨q, _⟩ | ⟨r, q, _⟩ <;> omega
  refine WI.whole ⟨d.lf, d.lx, d.ly, fun u hu => ?_, d.clo, d.bnd, d.all⟩ Rb (fun _ => h) fun u x s t e => ?_
  · rcases d.rng u hu with q | ⟨r, e1, e2, e3⟩
    · exact .inl q
    · exact .inr ⟨r, e1, by omega, e3⟩
  · obtain ⟨b1, b2⟩ := Rb u x s t e
    exact ⟨fun q => absurd q (no u b1), fun q => absurd q (no x b2)⟩

/-- At the end: labels. -/
theorem lab (d : WI R n n n F X Y) {u : Nat} (hu : u < n) : ∃ r : Nat, gi F u = r ∧ r ≤ u ∧ Wk R r u (gi X u) (gi Y u) := by
  rcases d.rng u hu with ⟨q, _⟩ | ⟨r, e1, _, e3, e4⟩
  · have := d.all u hu hu; omega
  · exact ⟨r, e1, e3, e4⟩

theorem conn (d : WI R n n n F X Y) (Rb : ∀ u x s t, R u x s t → u < n ∧ x < n) {u v : Nat} (hu : u < n) (hv : v < n) : gi F u = gi F v ↔ Conn R u v := by
  constructor
  · intro h
    obtain ⟨r, e1, _, w1⟩ := d.lab hu
    obtain ⟨r', e2, _, w2⟩ := d.lab hv
    obtain rfl : r = r' := by omega
    exact ⟨_, _, w1.symm.trans w2⟩
  · intro ⟨x, y, h⟩
    refine ((h.const (fun c => gi F c = gi F u) fun b c s t e => ?_).1 rfl).symm
    obtain ⟨b1, b2⟩ := Rb b c s t e
    obtain ⟨r, e1, e2, _⟩ := d.lab b1
    rw [d.clo b c s t e (.inl (by omega))]

theorem count (d : WI R n n n F X Y) (Rb : ∀ u x s t, R u x s t → u < n ∧ x < n) : cntB n (fun v => gi F v == (v : Int)) = compN n R := by
  refine cntB_congr fun v hv => ?_
  rw [Bool.eq_iff_iff, beq_iff_eq]
  refine Iff.trans ?_ (@decide_eq_true_iff _ (Classical.propDecidable _)).symm
  constructor
  · intro h u hu c
    have := (d.conn Rb (by omega) hv).2 c
    obtain ⟨r, e1, e2, _⟩ := d.lab (show u < n by omega)
    omega
  · intro h
    obtain ⟨r, e1, e2, w1⟩ := d.lab hv
    rcases Nat.lt_or_ge r v with q | q
    · exact absurd ⟨_, _, w1⟩ (h r q)
    · omega

/-- An edge does not fit the displacements. -/
def mis (X Y : List Int) (k : Bool) (u x : Nat) (s t : Int) : Prop := pr k (gi X u) (gi Y u) + pr k s t ≠ pr k (gi X x) (gi Y x)

theorem wrap (d : WI R n n n F X Y) (Rb : ∀ u x s t, R u x s t → u < n ∧ x < n) {v : Nat} (hv : v < n) (k : Bool) : (∃ u x s t, R u x s t ∧ gi F u = gi F v ∧ mis X Y k u x s t) ↔ WrapC R v k := by
  constructor
  · intro ⟨u, x, s, t, e, h1, h2⟩
    obtain ⟨b1, b2⟩ := Rb u x s t e
    obtain ⟨r, e1, _, w1⟩ := d.lab b1
    obtain ⟨r', e2, _, w2⟩ := d.lab b2
    have := (d.conn Rb b1 b2).2 (.one e)
    obtain rfl : r = r' := by omega
    have hw : WrapC R r k := ⟨_, _, (w1.trans (.one e)).trans w2.symm, by unfold mis at h2; rw [pr_add, pr_add, pr_neg]; omega⟩
    exact hw.move (Conn.trans ⟨_, _, w1⟩ ((d.conn Rb b1 hv).1 h1))
  · intro ⟨x, y, h, hk⟩
    refine Classical.byContradiction fun hn => ?_
    have := (h.pot k (fun c => gi F c = gi F v) (fun c => - pr k (gi X c) (gi Y c)) (fun b c s t e => ?_) (fun b c s t e hb => ?_) rfl).2
    · omega
    · obtain ⟨b1, b2⟩ := Rb b c s t e
      rw [(d.conn Rb b1 b2).2 (.one e)]
    · refine Classical.byContradiction fun q => hn ⟨b, c, s, t, e, hb, ?_⟩
      unfold mis; omega
end WI

end Go.Hx
