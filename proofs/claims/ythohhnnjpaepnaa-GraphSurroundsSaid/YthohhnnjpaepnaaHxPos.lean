/- Where elements lie that are put together by their labels. Plain; no program. No condition. -/
import Derived.Test.YthohhnnjpaepnaaHxDsuT
namespace Go.Hx
set_option linter.unusedSimpArgs false
set_option linter.unusedVariables false

/-- How many elements have smaller labels. -/
def atp (L : List Nat) (i : Nat) : Nat := cntB L.length fun k => decide (gt L k < i)
def szp (L : List Nat) (i : Nat) : Nat := cntB L.length fun k => gt L k == i
def pos (L : List Nat) (k : Nat) : Nat := atp L (gt L k) + cntB k fun j => gt L j == gt L k

theorem atp_succ (L : List Nat) (i : Nat) : atp L (i + 1) = atp L i + szp L i := by
  refine cntB_or (fun k _ => ?_) (fun k _ h => ?_)
  · rw [Bool.eq_iff_iff]; simp only [decide_eq_true_eq, Bool.or_eq_true, beq_iff_eq]; omega
  · simp only [decide_eq_true_eq, beq_iff_eq] at h; omega

theorem atp_mono (L : List Nat) {i j : Nat} (h : i ≤ j) : atp L i ≤ atp L j := by
  induction j with
  | zero => obtain rfl : i = 0 := by omega
            exact Nat.le_refl _
  | succ j ih =>
    by_cases e : i = j + 1
    · subst e; exact Nat.le_refl _
    · have := ih (by omega); rw [atp_succ]; omega

theorem atp_le (L : List Nat) (i : Nat) : atp L i ≤ L.length := cntB_le _ _

theorem cntB_mono {n m : Nat} (p : Nat → Bool) (h : n ≤ m) : cntB n p ≤ cntB m p := by
  induction m with
  | zero => obtain rfl : n = 0 := by omega
            exact Nat.le_refl _
  | succ m ih =>
    by_cases e : n = m + 1
    · subst e; exact Nat.le_refl _
    · have := ih (by omega); rw [cntB_succ]; omega

theorem cntB_pos {n k : Nat} {p : Nat → Bool} (hk : k < n) (hp : p k = true) : cntB k p < cntB n p := by
  have := cntB_mono p (show k + 1 ≤ n from hk)
  rw [cntB_succ, hp] at this
  simp at this; omega

theorem pos_lt (L : List Nat) {k : Nat} (hk : k < L.length) : pos L k < atp L (gt L k + 1) := by
  rw [atp_succ]
  unfold pos szp
  have := cntB_pos (p := fun j => gt L j == gt L k) hk (by simp)
  omega

theorem pos_inj (L : List Nat) {j k : Nat} (hjk : j < k) (hk : k < L.length) : pos L j ≠ pos L k := by
  intro e
  rcases Nat.lt_trichotomy (gt L j) (gt L k) with h | h | h
  · have h1 := pos_lt L (k := j) (by omega)
    have h2 := atp_mono L (show gt L j + 1 ≤ gt L k from h)
    have h3 : atp L (gt L k) ≤ pos L k := by unfold pos; omega
    omega
  · unfold pos at e
    rw [h] at e
    have := cntB_pos (n := k) (k := j) (p := fun i => gt L i == gt L k) hjk (by rw [beq_iff_eq]; exact h)
    omega
  · have h1 := pos_lt L hk
    have h2 := atp_mono L (show gt L k + 1 ≤ gt L j from h)
    have h3 : atp L (gt L j) ≤ pos L j := by unfold pos; omega
    omega

theorem Rd.cell1 {h : Hp} {s : Sl} {M : List Int} {x : Addr} {k : Nat} (r : Rd h 1 s (ints M)) (hx : s.a = some x) (hk : k < s.n) : h.cell (x.add k) = some (.int .i64 (M.getD k 0)) := by
  have := r.1
  rw [hx] at this
  rw [seg_cell this (by omega), ints_getD (by rw [r.ilen]; omega)]

end Go.Hx
