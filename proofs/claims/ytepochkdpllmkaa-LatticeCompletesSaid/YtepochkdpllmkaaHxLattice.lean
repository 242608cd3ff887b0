/- What the lattices' functions compute, over the abstract heap. No condition. -/
import Derived.Test.YtepochkdpllmkaaHxDefs
namespace Go.Hx

/-! ### Places -/

abbrev goodG (w h : Int) : Prop := 1 ≤ w ∧ 1 ≤ h ∧ w * h ≤ 4096

theorem goodG_le {w h : Int} (g : goodG w h) : w ≤ 4096 ∧ h ≤ 4096 := by
  obtain ⟨h1, h2, h3⟩ := g
  constructor
  · have : w * 1 ≤ w * h := Int.mul_le_mul_of_nonneg_left h2 (by omega)
    omega
  · have : 1 * h ≤ w * h := Int.mul_le_mul_of_nonneg_right h1 (by omega)
    omega

theorem div_le {w h : Int} (hh : 1 ≤ h) : (w > w64 (Int.tdiv 4096 h)) ↔ ¬ w * h ≤ 4096 := by
  have e : Int.tdiv 4096 h = 4096 / h := Int.tdiv_eq_ediv_of_nonneg (by omega)
  have h0 : 0 ≤ 4096 / h := Int.ediv_nonneg (by omega) (by omega)
  have h1 : 4096 / h ≤ 4096 := Int.ediv_le_self _ (by omega)
  rw [w64, e, w64_eq (by omega) (by omega)]
  have := Int.le_ediv_iff_mul_le (a := w) (b := 4096) (c := h) (by omega)
  omega

theorem check_spec (w h : Int) (H : Hp) (K : Int → Hp → Prop) (hb : ¬ goodG w h → K 2 H) (hg : goodG w h → K 0 H) : g_lattice_check w h H K := by
  unfold g_lattice_check
  refine cnd_of (fun b => ?_) fun b => cnd_of (fun c => ?_) fun c => ⟨?_, cnd_of (fun d => ?_) fun d => ?_⟩
  all_goals simp only [decide_eq_true_eq, decide_eq_false_iff_not] at *
  · exact hb fun g => by have := g.1; omega
  · exact hb fun g => by have := g.2.1; omega
  · omega
  · exact hb fun g => (div_le (by omega)).1 d g.2.2
  · refine hg ⟨by omega, by omega, ?_⟩
    have := (div_le (w := w) (h := h) (by omega))
    exact Classical.byContradiction fun k => d (this.2 k)

theorem grid29_spec (w h : Int) (H : Hp) (K : Bool → Hp → Prop) (hb : ¬ goodG w h → K false H) (hg : goodG w h → K true H) : g_ref29_Grid w h H K := by
  unfold g_ref29_Grid
  refine cnd_of (fun b => cnd_of (fun c => cnd_of (fun d => cnd_of (fun e => ?_) fun e => ?_) fun d => ?_) fun c => ?_) fun b => ?_
  all_goals simp only [decide_eq_true_eq, decide_eq_false_iff_not] at *
  · have h1 : 0 ≤ w * h := Int.mul_nonneg (by omega) (by omega)
    have h2 : w * h ≤ 4096 * 4096 := Int.mul_le_mul d e (by omega) (by omega)
    rw [w64, w64_eq (by omega) (by omega)]
    by_cases g : w * h ≤ 4096
    · rw [decide_eq_true g]; exact hg ⟨by omega, by omega, g⟩
    · rw [decide_eq_false g]; exact hb fun k => g k.2.2
  · exact hb fun g => e (goodG_le g).2
  · exact hb fun g => d (goodG_le g).1
  · exact hb fun g => by have := g.2.1; omega
  · exact hb fun g => by have := g.1; omega

/-- At, by whichever of both. -/
def atV (w h x y : Int) : Int × Int :=
  if ¬ goodG w h then (0, 2) else if x < 0 ∨ x ≥ w ∨ y < 0 ∨ y ≥ h then (0, 3) else (y * w + x, 0)

theorem at_tail (w h x y : Int) (H : Hp) (K : Int → Int → Hp → Prop) (hg : goodG w h) (hK : K (atV w h x y).1 (atV w h x y).2 H) :
    (cnd (decide (x < 0)) (K 0 3 H) (cnd (decide (x ≥ w)) (K 0 3 H) (cnd (decide (y < 0)) (K 0 3 H) (cnd (decide (y ≥ h)) (K 0 3 H) (K (w64 ((w64 (y * w)) + x)) 0 H))))) := by
  rw [atV, if_neg (fun k => k hg)] at hK
  refine cnd_of (fun b => ?_) fun b => cnd_of (fun c => ?_) fun c => cnd_of (fun d => ?_) fun d => cnd_of (fun e => ?_) fun e => ?_
  all_goals simp only [decide_eq_true_eq, decide_eq_false_iff_not] at *
  · rw [if_pos (by omega)] at hK; exact hK
  · rw [if_pos (by omega)] at hK; exact hK
  · rw [if_pos (by omega)] at hK; exact hK
  · rw [if_pos (by omega)] at hK; exact hK
  · rw [if_neg (by omega)] at hK
    have g := goodG_le hg
    have h1 : 0 ≤ y * w := Int.mul_nonneg (by omega) (by omega)
    have h2 : y * w ≤ 4096 * 4096 := Int.mul_le_mul (by omega) (by omega) (by omega) (by omega)
    rw [w64, w64, w64_eq (x := y * w) (by omega) (by omega), w64_eq (by omega) (by omega)]
    exact hK

theorem At_spec (w h x y : Int) (H : Hp) (K : Int → Int → Hp → Prop) (hK : K (atV w h x y).1 (atV w h x y).2 H) : g_lattice_At w h x y H K := by
  unfold g_lattice_At
  refine check_spec _ _ _ _ (fun hb => ?_) (fun hg => ?_)
  · rw [atV, if_pos hb] at hK; exact hK
  · exact at_tail w h x y H K hg hK

theorem At29_spec (w h x y : Int) (H : Hp) (K : Int → Int → Hp → Prop) (hK : K (atV w h x y).1 (atV w h x y).2 H) : g_ref29_At w h x y H K := by
  unfold g_ref29_At
  refine grid29_spec _ _ _ _ (fun hb => ?_) (fun hg => ?_)
  · rw [atV, if_pos hb] at hK; exact hK
  · exact at_tail w h x y H K hg hK

/-- Place, by whichever of both. -/
def placeV (w h v : Int) : Int × Int × Int :=
  if ¬ goodG w h then (0, 0, 2) else if v < 0 ∨ v ≥ w * h then (0, 0, 3) else (v % w, v / w, 0)

theorem place_tail (w h v : Int) (H : Hp) (K : Int → Int → Int → Hp → Prop) (hg : goodG w h) (hK : K (placeV w h v).1 (placeV w h v).2.1 (placeV w h v).2.2 H) :
    (cnd (decide (v < 0)) (K 0 0 3 H) (cnd (decide (v ≥ (w64 (w * h)))) (K 0 0 3 H) (nz w <| nz w <| K (Int.tmod v w) (w64 (Int.tdiv v w)) 0 H))) := by
  have g := goodG_le hg
  have h1 : 0 ≤ w * h := Int.mul_nonneg (by have := hg.1; omega) (by have := hg.2.1; omega)
  have h3 := hg.2.2
  have h4 := hg.1
  rw [w64, w64_eq (x := w * h) (by omega) (by omega)]
  rw [placeV, if_neg (fun k => k hg)] at hK
  refine cnd_of (fun b => ?_) fun b => cnd_of (fun c => ?_) fun c => ⟨by omega, by omega, ?_⟩
  all_goals simp only [decide_eq_true_eq, decide_eq_false_iff_not] at *
  · rw [if_pos (by omega)] at hK; exact hK
  · rw [if_pos (by omega)] at hK; exact hK
  · rw [if_neg (by omega)] at hK
    have e1 : Int.tdiv v w = v / w := Int.tdiv_eq_ediv_of_nonneg (by omega)
    have e2 : Int.tmod v w = v % w := Int.tmod_eq_emod_of_nonneg (by omega)
    have h5 : 0 ≤ v / w := Int.ediv_nonneg (by omega) (by omega)
    have h6 : v / w ≤ v := Int.ediv_le_self _ (by omega)
    rw [w64, e1, e2, w64_eq (by omega) (by omega)]
    exact hK

theorem Place_spec (w h v : Int) (H : Hp) (K : Int → Int → Int → Hp → Prop) (hK : K (placeV w h v).1 (placeV w h v).2.1 (placeV w h v).2.2 H) : g_lattice_Place w h v H K := by
  unfold g_lattice_Place
  refine check_spec _ _ _ _ (fun hb => ?_) (fun hg => ?_)
  · rw [placeV, if_pos hb] at hK; exact hK
  · exact place_tail w h v H K hg hK

theorem Place29_spec (w h v : Int) (H : Hp) (K : Int → Int → Int → Hp → Prop) (hK : K (placeV w h v).1 (placeV w h v).2.1 (placeV w h v).2.2 H) : g_ref29_Place w h v H K := by
  unfold g_ref29_Place
  refine grid29_spec _ _ _ _ (fun hb => ?_) (fun hg => ?_)
  · rw [placeV, if_pos hb] at hK; exact hK
  · exact place_tail w h v H K hg hK

end Go.Hx
