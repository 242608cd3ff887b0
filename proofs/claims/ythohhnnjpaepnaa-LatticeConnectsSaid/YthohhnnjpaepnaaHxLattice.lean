/- What the lattices' functions compute, over the abstract heap. No condition. -/
import Derived.Test.YthohhnnjpaepnaaHxDefs
namespace Go.Hx
set_option linter.unusedSimpArgs false
set_option linter.unusedVariables false

/-! ### Places -/

abbrev goodG (w h : Int) : Prop := 1 ≤ w ∧ 1 ≤ h ∧ w * h ≤ 4096

theorem goodG_le {w h : Int} (g : goodG w h) : w ≤ 4096 ∧ h ≤ 4096 := by
  obtain ⟨h1, h2, h3⟩ := g
  constructor
  · have : w * 1 ≤ w * h := Int.mul_le_mul_of_nonneg_left h2 (by omega)
    omega
  · have : 1 * h ≤ w * h := Int.mul_le_mul_of_nonneg_right h1 (by omega)
    omega

theorem div_le {w h : Int} (hh : 1 ≤ h) : (w > w64 (Int.tdiv 4096 h)) ↔ ¬ w * h ≤ 4096 := by
  have e : Int.tdiv 4096 h = 4096 / h := Int.tdiv_eq_ediv_of_nonneg (by omega)
  have h0 : 0 ≤ 4096 / h := Int.ediv_nonneg (by omega) (by omega)
  have h1 : 4096 / h ≤ 4096 := Int.ediv_le_self _ (by omega)
  rw [w64, e, w64_eq (by omega) (by omega)]
  have := Int.le_ediv_iff_mul_le (a := w) (b := 4096) (c := h) (by omega)
  omega

theorem check_spec (w h : Int) (H : Hp) (K : Int → Hp → Prop) (hb : ¬ goodG w h → K 2 H) (hg : goodG w h → K 0 H) : g_lattice_check w h H K := by
  unfold g_lattice_check
  refine cnd_of (fun b => ?_) fun b => cnd_of (fun c => ?_) fun c => ⟨?_, cnd_of (fun d => ?_) fun d => ?_⟩
  all_goals simp only [decide_eq_true_eq, decide_eq_false_iff_not] at *
  · exact hb fun g => by have := g.1; omega
  · exact hb fun g => by have := g.2.1; omega
  · omega
  · exact hb fun g => (div_le (by omega)).1 d g.2.2
  · refine hg ⟨by omega, by omega, ?_⟩
    have := (div_le (w := w) (h := h) (by omega))
    exact Classical.byContradiction fun k => d (this.2 k)

/-- At, by whichever of both. -/
def atV (w h x y : Int) : Int × Int :=
  if ¬ goodG w h then (0, 2) else if x < 0 ∨ x ≥ w ∨ y < 0 ∨ y ≥ h then (0, 3) else (y * w + x, 0)

theorem at_tail (w h x y : Int) (H : Hp) (K : Int → Int → Hp → Prop) (hg : goodG w h) (hK : K (atV w h x y).1 (atV w h x y).2 H) :
    (cnd (decide (x < 0)) (K 0 3 H) (cnd (decide (x ≥ w)) (K 0 3 H) (cnd (decide (y < 0)) (K 0 3 H) (cnd (decide (y ≥ h)) (K 0 3 H) (K (w64 ((w64 (y * w)) + x)) 0 H))))) := by
  rw [atV, if_neg (fun k => k hg)] at hK
  refine cnd_of (fun b => ?_) fun b => cnd_of (fun c => ?_) fun c => cnd_of (fun d => ?_) fun d => cnd_of (fun e => ?_) fun e => ?_
  all_goals simp only [decide_eq_true_eq, decide_eq_false_iff_not] at *
  · rw [if_pos (by omega)] at hK; exact hK
  · rw [if_pos (by omega)] at hK; exact hK
  · rw [if_pos (by omega)] at hK; exact hK
  · rw [if_pos (by omega)] at hK; exact hK
  · rw [if_neg (by omega)] at hK
    have g := goodG_le hg
    have h1 : 0 ≤ y * w := Int.mul_nonneg (by omega) (by omega)
    have h2 : y * w ≤ 4096 * 4096 := Int.mul_le_mul (by omega) (by omega) (by omega) (by omega)
    rw [w64, w64, w64_eq (x := y * w) (by omega) (by omega), w64_eq (by omega) (by omega)]
    exact hK

theorem At_spec (w h x y : Int) (H : Hp) (K : Int → Int → Hp → Prop) (hK : K (atV w h x y).1 (atV w h x y).2 H) : g_lattice_At w h x y H K := by
  unfold g_lattice_At
  refine check_spec _ _ _ _ (fun hb => ?_) (fun hg => ?_)
  · rw [atV, if_pos hb] at hK; exact hK
  · exact at_tail w h x y H K hg hK

end Go.Hx
