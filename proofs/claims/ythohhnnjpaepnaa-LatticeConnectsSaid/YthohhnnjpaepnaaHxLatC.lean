/- Grids, trees and complete graphs are connected. No condition. -/
import Derived.Test.YthohhnnjpaepnaaHxGrW
import Derived.Test.YthohhnnjpaepnaaHxLatticeC
namespace Go.Hx
set_option linter.unusedSimpArgs false
set_option linter.unusedVariables false

/-! ### Complete graphs -/

def completeR (u k : Nat) : List Int := (List.range k).flatMap fun (j : Nat) => [(u : Int), (u : Int) + 1 + (j : Int), 0]
def completeE (n m : Nat) : List Int := (List.range m).flatMap fun (u : Nat) => completeR u (n - 1 - u)

theorem completeR_len (u k : Nat) : (completeR u k).length ≤ k * 3 := flatMap_len _ _ _ fun _ => by simp
theorem completeE_len (n m : Nat) : (completeE n m).length ≤ m * (n * 3) := flatMap_len _ _ _ fun u => by
  have := completeR_len u (n - 1 - u)
  have h : (n - 1 - u) * 3 ≤ n * 3 := Nat.mul_le_mul_right _ (by omega)
  omega

theorem complete_spec (n : Nat) (H : Hp) (K : Sl → Int → Hp → Prop) (h0 : 1 ≤ n) (h1 : n ≤ 40)
    (hK : ∀ s H', Fr H.size H H' → Lst H' 3 s (ints (completeE n n)) H.size → K s 0 H') : g_lattice_Complete (n : Int) H K := by
  unfold g_lattice_Complete
  refine jn_of (fun s h2 => s.1 = false ∧ h2 = H) ?_ fun K3 hK3 => ?_
  case refine_2 =>
    refine cnd_f (by simp only [decide_eq_false_iff_not]; omega) (hK3 _ _ ⟨by simp only [decide_eq_false_iff_not]; omega, rfl⟩)
  rintro ⟨_, u⟩ H ⟨rfl, rfl⟩
  refine cnd_f rfl ⟨by omega, cnd_f ?_ ?_⟩
  · have e1 : w64 ((n : Int) - 1) = ((n - 1 : Nat) : Int) := by rw [w64, w64_eq (by omega) (by omega)]; omega
    have e2 : n * (n - 1) ≤ 40 * 39 := Nat.mul_le_mul h1 (by omega)
    rw [e1, w64, w64, ← Int.natCast_mul, w64k (by omega), Int.tdiv_eq_ediv_of_nonneg (Int.natCast_nonneg _), w64_eq (by omega) (by omega)]
    simp only [decide_eq_false_iff_not]; omega
  refine for_of n (fun u t H' => t.2.1 = (u : Int) ∧ Lst H' 3 t.1 (ints (completeE n u)) H.size ∧ Fr H.size H H') ?_ ⟨rfl, by simpa [completeE, ints] using Lst.nil H 3 H.size, Fr.refl _ _⟩
  rintro u K1 ⟨s, u', x⟩ H1 hu ⟨rfl, hL, fr⟩ hK1
  simp only
  refine cnd_of (fun f => ?_) fun f => ?_
  · simp only [decide_eq_true_eq] at f
    have e1 : w64 ((u : Int) + 1) = (u : Int) + 1 := w64_eq (by omega) (by omega)
    rw [e1]
    refine for_of (n - 1 - u) (fun j t H' => t.2.1 = (u : Int) + 1 + (j : Int) ∧ Lst H' 3 t.1 (ints (completeE n u ++ completeR u j)) H.size ∧ Fr H.size H H') ?_ ⟨by simp, by simpa [completeR] using hL, fr⟩
    rintro j K2 ⟨s, j', x⟩ H2 hj ⟨rfl, hL2, fr2⟩ hK2
    simp only
    refine cnd_of (fun f2 => ?_) fun f2 => ?_
    · simp only [decide_eq_true_eq] at f2
      refine alo_of fun H3 z3 b3 k3 => ?_
      have fr3 : Fr H2.size H2 H3 := ⟨by omega, k3⟩
      have hs := fr2.size
      have hsn : s.n ≤ 40 * (40 * 3) + 40 * 3 := by
        have h := hL2.1
        have l1 := completeE_len n u
        have l2 := completeR_len u j
        rw [ints_len, List.length_append] at h
        simp only at h
        have l3 : u * (n * 3) ≤ 40 * (40 * 3) := Nat.mul_le_mul (by omega) (by omega)
        omega
      refine app_lst (x := ⟨some ⟨H2.size, 0, none⟩, 1, 1⟩) (news := ints [(u : Int), (u : Int) + 1 + j, 0]) (hL2.keep fr3.size fun a ha => k3 _ (hL2.blk_lt ha).2.1) (by omega) (by rw [seg_row (row_own b3) (by simp)]; rfl) (ints_one _) rfl
        (by simp only; omega) (by simp only; omega) ?_
      intro s' H4 hL4 _ hz fr4 _ _
      refine hK2 (by omega) _ _ ⟨?_, ?_, (fr2.trans (fr3.mono hs)).trans fr4⟩
      · show w64 ((u : Int) + 1 + j + 1) = (u : Int) + 1 + ((j + 1 : Nat) : Int)
        rw [w64, w64_eq (by omega) (by omega)]; omega
      · rw [completeR, flatMap_succ, ← List.append_assoc, ints_app]; exact hL4
    · simp only [decide_eq_false_iff_not] at f2
      obtain rfl : j = n - 1 - u := by omega
      refine hK1 (by omega) _ _ ⟨rfl, ?_, fr2⟩
      rw [completeE, flatMap_succ]; exact hL2
  · simp only [decide_eq_false_iff_not] at f
    obtain rfl : u = n := by omega
    exact hK _ _ fr hL

/-! ### Lists of edges as pairs -/

theorem fm_congr {α : Type} {f g : Nat → List α} {n : Nat} (h : ∀ i, i < n → f i = g i) : (List.range n).flatMap f = (List.range n).flatMap g := by
  induction n with
  | zero => rfl
  | succ n ih => rw [flatMap_succ, flatMap_succ, ih fun i hi => h i (by omega), h n (by omega)]

theorem fl3_fm (f : Nat → List (Nat × Nat)) (n : Nat) : fl3 ((List.range n).flatMap f) = (List.range n).flatMap fun i => fl3 (f i) := by
  induction n with
  | zero => rfl
  | succ n ih => rw [flatMap_succ, flatMap_succ, fl3_app, ih]

def completeQ (n : Nat) : List (Nat × Nat) := (List.range n).flatMap fun u => (List.range (n - 1 - u)).flatMap fun j => [(u, u + 1 + j)]
theorem completeQ_eq (n : Nat) : fl3 (completeQ n) = completeE n n := by
  unfold completeQ completeE
  rw [fl3_fm]
  refine fm_congr fun u _ => ?_
  rw [fl3_fm]
  refine fm_congr fun j _ => ?_
  simp [fl3]
theorem completeQ_mem {n u v : Nat} : (u, v) ∈ completeQ n ↔ u < v ∧ v < n := by
  simp only [completeQ, List.mem_flatMap, List.mem_range, List.mem_singleton, Prod.mk.injEq]
  constructor
  · rintro ⟨a, ha, b, hb, rfl, rfl⟩; omega
  · intro h; exact ⟨u, by omega, v - u - 1, by omega, rfl, by omega⟩

def treeQ (c n : Nat) : List (Nat × Nat) := (List.range n).flatMap fun k => [(k / c, k + 1)]
theorem treeQ_eq (c n : Nat) : fl3 (treeQ c n) = treeE (c : Int) n := by
  unfold treeQ treeE
  rw [fl3_fm]
  refine fm_congr fun k _ => ?_
  simp [fl3]
theorem treeQ_mem {c n u v : Nat} : (u, v) ∈ treeQ c n ↔ ∃ k, k < n ∧ u = k / c ∧ v = k + 1 := by
  simp only [treeQ, List.mem_flatMap, List.mem_range, List.mem_singleton, Prod.mk.injEq]
theorem treeQ_len (c n : Nat) : (treeQ c n).length = n := by
  induction n with
  | zero => rfl
  | succ n ih => unfold treeQ at *; rw [flatMap_succ, List.length_append, ih]; rfl

/-! ### Grids -/

def stN (a b n : Nat) (wrap : Bool) : Nat × Bool := if a + b = n ∧ wrap = true ∧ n ≥ 3 then (0, true) else (a + b, decide (a + b < n))
theorem stN_eq (a b n : Nat) (wrap : Bool) : stepV (a : Int) (b : Int) (n : Int) wrap = ((((stN a b n wrap).1 : Nat) : Int), (stN a b n wrap).2) := by
  unfold stepV stN
  by_cases h : a + b = n ∧ wrap = true ∧ n ≥ 3
  · rw [if_pos h, if_pos ⟨by omega, h.2.1, by omega⟩]; simp
  · rw [if_neg h, if_neg (fun q => h ⟨by omega, q.2.1, by omega⟩)]
    simp only [Prod.mk.injEq]
    refine ⟨by omega, ?_⟩
    rw [Bool.eq_iff_iff, decide_eq_true_eq, decide_eq_true_eq]; omega
theorem stN_ok {a b n : Nat} {wrap : Bool} (ha : a < n) (hb : b ≤ 1) (h : (stN a b n wrap).2 = true) : (stN a b n wrap).1 < n ∧ (b = 0 → (stN a b n wrap).1 = a) ∧ (b = 1 → (stN a b n wrap).1 ≠ a) := by
  unfold stN at *
  split at h
  · rename_i q; rw [if_pos q]; simp only; omega
  · rename_i q; rw [if_neg q]; simp only [decide_eq_true_eq] at h ⊢; omega

def gridQ (w h : Nat) (wx wy : Bool) (D : List (Nat × Nat)) : List (Nat × Nat) :=
  (List.range h).flatMap fun y => (List.range w).flatMap fun x => (List.range D.length).flatMap fun i =>
    if (stN x (D.getD i (0, 0)).1 w wx).2 = true ∧ (stN y (D.getD i (0, 0)).2 h wy).2 = true then [(y * w + x, (stN y (D.getD i (0, 0)).2 h wy).1 * w + (stN x (D.getD i (0, 0)).1 w wx).1)] else []

theorem gridQ_eq (w h : Nat) (wx wy : Bool) (D : List (Nat × Nat)) (M : List Int) (hM : ∀ i, i < D.length → M.getD (i * 2) 0 = ((D.getD i (0, 0)).1 : Nat) ∧ M.getD (i * 2 + 1) 0 = ((D.getD i (0, 0)).2 : Nat)) :
    fl3 (gridQ w h wx wy D) = gridL (w : Int) (h : Int) wx wy M D.length := by
  unfold gridQ gridL rowL placeL
  rw [fl3_fm]
  refine fm_congr fun y _ => ?_
  rw [fl3_fm]
  refine fm_congr fun x _ => ?_
  rw [fl3_fm]
  refine fm_congr fun i hi => ?_
  obtain ⟨m1, m2⟩ := hM i hi
  unfold edgeL
  rw [m1, m2, stN_eq, stN_eq]
  simp only
  split
  · simp [fl3]
  · rfl

theorem gridQ_mem {w h : Nat} {wx wy : Bool} {D : List (Nat × Nat)} {u v : Nat} : (u, v) ∈ gridQ w h wx wy D ↔ ∃ y x i, y < h ∧ x < w ∧ i < D.length ∧ (stN x (D.getD i (0, 0)).1 w wx).2 = true ∧ (stN y (D.getD i (0, 0)).2 h wy).2 = true ∧ u = y * w + x ∧ v = (stN y (D.getD i (0, 0)).2 h wy).1 * w + (stN x (D.getD i (0, 0)).1 w wx).1 := by
  simp only [gridQ, List.mem_flatMap, List.mem_range]
  constructor
  · rintro ⟨y, hy, x, hx, i, hi, h⟩
    split at h
    · rename_i q
      simp only [List.mem_singleton, Prod.mk.injEq] at h
      exact ⟨y, x, i, hy, hx, hi, q.1, q.2, h.1, h.2⟩
    · cases h
  · rintro ⟨y, x, i, hy, hx, hi, h1, h2, rfl, rfl⟩
    exact ⟨y, hy, x, hx, i, hi, by rw [if_pos ⟨h1, h2⟩]; simp⟩

theorem gv_lt {w t X Y : Nat} (hX : X < w) (hY : Y < t) : Y * w + X < w * t := by
  have : (Y + 1) * w ≤ t * w := Nat.mul_le_mul_right _ (by omega)
  rw [Nat.add_mul, Nat.mul_comm t w] at this
  omega
theorem gv_inj {w X Y X' Y' : Nat} (hX : X < w) (hX' : X' < w) (h : Y * w + X = Y' * w + X') : X = X' ∧ Y = Y' := by
  have m : ∀ {A B : Nat}, A < w → (B * w + A) % w = A := fun {A B} hA => by rw [Nat.mul_comm, Nat.mul_add_mod, Nat.mod_eq_of_lt hA]
  have d : ∀ {A B : Nat}, A < w → (B * w + A) / w = B := fun {A B} hA => by rw [Nat.mul_comm, Nat.mul_add_div (by omega), Nat.div_eq_of_lt hA, Nat.add_zero]
  have h1 := congrArg (· % w) h
  have h2 := congrArg (· / w) h
  simp only [m hX, m hX', d hX, d hX'] at h1 h2
  exact ⟨h1, h2⟩

theorem gridQ_ok {w h : Nat} {wx wy : Bool} {D : List (Nat × Nat)} (hD : ∀ i, i < D.length → (D.getD i (0, 0)).1 ≤ 1 ∧ (D.getD i (0, 0)).2 ≤ 1 ∧ ¬ ((D.getD i (0, 0)).1 = 0 ∧ (D.getD i (0, 0)).2 = 0)) (u v : Nat) (g : (u, v) ∈ gridQ w h wx wy D) : u < w * h ∧ v < w * h ∧ u ≠ v := by
  obtain ⟨y, x, i, hy, hx, hi, h1, h2, rfl, rfl⟩ := gridQ_mem.1 g
  obtain ⟨d1, d2, d3⟩ := hD i hi
  obtain ⟨a1, a2, a3⟩ := stN_ok hx d1 h1
  obtain ⟨b1, b2, b3⟩ := stN_ok hy d2 h2
  refine ⟨gv_lt hx hy, gv_lt a1 b1, fun e => ?_⟩
  obtain ⟨e1, e2⟩ := gv_inj hx a1 e
  rcases Nat.lt_or_ge 0 (D.getD i (0, 0)).1 with q | q
  · exact a3 (by omega) e1.symm
  · exact b3 (by omega) e2.symm

theorem stN_right {a n : Nat} (wrap : Bool) (h : a + 1 < n) : stN a 1 n wrap = (a + 1, true) := by
  unfold stN; rw [if_neg (by omega), decide_eq_true h]
theorem stN_stay {a n : Nat} (wrap : Bool) (h : a < n) : stN a 0 n wrap = (a, true) := by
  unfold stN; rw [if_neg (by omega), Nat.add_zero, decide_eq_true h]

theorem gridQ_con {w h : Nat} {wx wy : Bool} {D : List (Nat × Nat)} (hD : 2 ≤ D.length) (D0 : D.getD 0 (0, 0) = (1, 0)) (D1 : D.getD 1 (0, 0) = (0, 1)) (v : Nat) (hv : v < w * h) : Cn (fun u v => (u, v) ∈ gridQ w h wx wy D) 0 v := by
  have hw : 0 < w := by
    rcases Nat.eq_zero_or_pos w with q | q
    · subst q; simp at hv
    · exact q
  have hX : v % w < w := Nat.mod_lt _ hw
  have hY : v / w < h := (Nat.div_lt_iff_lt_mul hw).2 (by rw [Nat.mul_comm]; exact hv)
  have hh : 0 < h := Nat.lt_of_le_of_lt (Nat.zero_le _) hY
  have e : v / w * w + v % w = v := by rw [Nat.mul_comm]; exact Nat.div_add_mod _ _
  have row : ∀ x, x < w → Cn (fun u v => (u, v) ∈ gridQ w h wx wy D) 0 x := fun x => by
    induction x with
    | zero => intro _; exact .refl 0
    | succ x ih =>
      intro hx
      refine .fwd (ih (by omega)) (gridQ_mem.2 ⟨0, x, 0, by omega, by omega, by omega, ?_⟩)
      rw [D0]
      simp only [stN_right wx hx, stN_stay wy (show 0 < h by omega)]
      exact ⟨trivial, trivial, by omega, by omega⟩
  have col : ∀ y, y < h → Cn (fun u v => (u, v) ∈ gridQ w h wx wy D) (v % w) (y * w + v % w) := fun y => by
    induction y with
    | zero => intro _; rw [Nat.zero_mul, Nat.zero_add]; exact .refl _
    | succ y ih =>
      intro hy
      refine .fwd (ih (by omega)) (gridQ_mem.2 ⟨y, v % w, 1, by omega, hX, by omega, ?_⟩)
      rw [D1]
      simp only [stN_right wy hy, stN_stay wx hX]
      exact ⟨trivial, trivial, trivial, trivial⟩
  have := (row _ hX).trans (col _ hY)
  rwa [e] at this

/-- Whole: a connected graph. -/
theorem whole_spec (n : Nat) (s : Sl) (Q : List (Nat × Nat)) (h : Hp) (hr : Rd h 3 s (ints (fl3 Q))) (hn : 1 ≤ n ∧ n ≤ 4096) (hq : Q.length ≤ 16384) (ok : ∀ u v, (u, v) ∈ Q → u < n ∧ v < n ∧ u ≠ v) (con : ∀ v, v < n → Cn (fun u v => (u, v) ∈ Q) 0 v) (K : Bool → Hp → Prop)
    (hK : ∀ h', Fr h.size h h' → K true h') : g_law29_whole (n : Int) s h K := by
  have sn : s.n = Q.length := by have := hr.ilen; rw [fl3_len] at this; omega
  unfold g_law29_whole
  refine gNew_spec _ s _ h hr _ (fun e h' _ ge => absurd (by rw [sn]; exact fl3_ok ok hn.2 hq) ge.not) fun N h3 o eN _ d lo f3 => cnd_t rfl (gRow_spec d _ fun h7 L lc f7 => ?_)
  obtain rfl : n = N := by omega
  have p : eP (fl3 Q) s.n = fun u v => (u, v) ∈ Q := by rw [sn]; funext u v; exact propext (fl3_eP _ u v)
  rw [p] at lc
  rw [lc.one hn.1 con]
  have z3 := f3.size; have z7 := f7.size
  exact hK h7 ⟨by omega, fun c hc => by rw [f7.blk _ (by omega), f3.blk _ hc]⟩

theorem Square_spec (w h : Int) (wx wy : Bool) (H : Hp) (K : Int → Sl → Int → Hp → Prop)
    (hb : ¬ goodG w h → ∀ H', Fr H.size H H' → K 0 ⟨none, 0, 0⟩ 2 H')
    (hg : goodG w h → ∀ s H', Fr H.size H H' → Lst H' 3 s (ints (gridL w h wx wy [1, 0, 0, 1] 2)) H.size → K (w * h) s 0 H') : g_lattice_Square w h wx wy H K := by
  unfold g_lattice_Square
  refine alo_of fun H1 z1 b1 k1 => ?_
  have fr1 : Fr H.size H H1 := ⟨by omega, k1⟩
  refine grid_spec w h wx wy ⟨some ⟨H.size, 0, none⟩, 2, 2⟩ [1, 0, 0, 1] H1 _ (by rw [seg_row (row_own b1) (by simp)]; rfl) (by simp) (by simp) (by simp; omega) (fun bad H' fr => ?_) (fun good s H' fr hL => ?_)
  · exact hb bad _ (fr1.trans (fr.mono fr1.size))
  · exact hg good _ _ (fr1.trans (fr.mono fr1.size)) (hL.le fr1.size)

theorem gridQ_len {w h : Nat} {wx wy : Bool} {D : List (Nat × Nat)} (hD : D.length ≤ 3) (hw : w ≤ 24) (hh : h ≤ 24) : (gridQ w h wx wy D).length ≤ 1728 := by
  unfold gridQ
  have a := flatMap_len (fun y => (List.range w).flatMap fun x => (List.range D.length).flatMap fun i =>
    if (stN x (D.getD i (0, 0)).1 w wx).2 = true ∧ (stN y (D.getD i (0, 0)).2 h wy).2 = true then [(y * w + x, (stN y (D.getD i (0, 0)).2 h wy).1 * w + (stN x (D.getD i (0, 0)).1 w wx).1)] else []) (24 * 3) h fun y => ?_
  · have : h * (24 * 3) ≤ 24 * (24 * 3) := Nat.mul_le_mul_right _ hh
    omega
  · have b := flatMap_len (fun x => (List.range D.length).flatMap fun i =>
      if (stN x (D.getD i (0, 0)).1 w wx).2 = true ∧ (stN y (D.getD i (0, 0)).2 h wy).2 = true then [(y * w + x, (stN y (D.getD i (0, 0)).2 h wy).1 * w + (stN x (D.getD i (0, 0)).1 w wx).1)] else []) 3 w fun x => ?_
    · have : w * 3 ≤ 24 * 3 := Nat.mul_le_mul_right _ hw
      exact Nat.le_trans b this
    · refine Nat.le_trans (flatMap_len _ 1 _ fun i => ?_) (by omega)
      split <;> simp

theorem either_spec (w h : Nat) (hw : 1 ≤ w ∧ w ≤ 24) (hh : 1 ≤ h ∧ h ≤ 24) (wx wy three : Bool) (H : Hp) (K : Int → Sl → Int → Hp → Prop)
    (hK : ∀ s H' Q, Fr H.size H H' → Lst H' 3 s (ints (fl3 Q)) H.size → Q.length ≤ 1728 → (∀ u v, (u, v) ∈ Q → u < w * h ∧ v < w * h ∧ u ≠ v) → (∀ v, v < w * h → Cn (fun u v => (u, v) ∈ Q) 0 v) → K ((w * h : Nat) : Int) s 0 H') : g_law29_either (w : Int) (h : Int) wx wy three H K := by
  have hn : w * h ≤ 24 * 24 := Nat.mul_le_mul hw.2 hh.2
  have good : goodG (w : Int) (h : Int) := ⟨by omega, by omega, by rw [← Int.natCast_mul]; omega⟩
  unfold g_law29_either
  refine cnd_of (fun _ => Triangular_spec _ _ _ _ _ _ (fun bad => absurd good bad) fun _ s H' f l => ?_) fun _ => Square_spec _ _ _ _ _ _ (fun bad => absurd good bad) fun _ s H' f l => ?_
  · have e : fl3 (gridQ w h wx wy [(1, 0), (0, 1), (1, 1)]) = gridL (w : Int) (h : Int) wx wy [1, 0, 0, 1, 1, 1] 3 := gridQ_eq w h wx wy [(1, 0), (0, 1), (1, 1)] [1, 0, 0, 1, 1, 1] fun i hi => by
      have : i = 0 ∨ i = 1 ∨ i = 2 := by simp at hi; omega
      rcases this with rfl | rfl | rfl <;> exact ⟨rfl, rfl⟩
    rw [← e] at l
    rw [← Int.natCast_mul]
    refine hK s H' _ f l (gridQ_len (by decide) hw.2 hh.2) (fun u v g => gridQ_ok (fun i hi => ?_) u v g) fun v hv => gridQ_con (by decide) rfl rfl v hv
    have : i = 0 ∨ i = 1 ∨ i = 2 := by simp at hi; omega
    rcases this with rfl | rfl | rfl <;> decide
  · have e : fl3 (gridQ w h wx wy [(1, 0), (0, 1)]) = gridL (w : Int) (h : Int) wx wy [1, 0, 0, 1] 2 := gridQ_eq w h wx wy [(1, 0), (0, 1)] [1, 0, 0, 1] fun i hi => by
      have : i = 0 ∨ i = 1 := by simp at hi; omega
      rcases this with rfl | rfl <;> exact ⟨rfl, rfl⟩
    rw [← e] at l
    rw [← Int.natCast_mul]
    refine hK s H' _ f l (gridQ_len (by decide) hw.2 hh.2) (fun u v g => gridQ_ok (fun i hi => ?_) u v g) fun v hv => gridQ_con (by decide) rfl rfl v hv
    have : i = 0 ∨ i = 1 := by simp at hi; omega
    rcases this with rfl | rfl <;> decide

theorem tree_some : ∀ c : Fin 4, ∀ d : Fin 6, treeN ((c.val : Int) + 1) d.val 1 1 ≠ none := by decide

theorem g_law29_LatticeConnects_true (a b : Int) (wx three : Bool) (h : Hp) (K : Bool → Hp → Prop) (w0 : 0 ≤ a ∧ a ≤ 255) (w1 : 0 ≤ b ∧ b ≤ 255) (hK : ∀ h', K true h') : g_law29_LatticeConnects a b wx three h K := by
  obtain ⟨A, rfl⟩ : ∃ A : Nat, a = A := ⟨a.toNat, by omega⟩
  obtain ⟨B, rfl⟩ : ∃ B : Nat, b = B := ⟨b.toNat, by omega⟩
  have tm : ∀ (x m : Nat), 1 ≤ m → Int.tmod (x : Int) (m : Int) = ((x % m : Nat) : Int) := fun x m _ => by rw [Int.tmod_eq_emod_of_nonneg (by omega), ← Int.natCast_emod]
  have t1 := tm A 24 (by omega); have t2 := tm B 24 (by omega); have t3 := tm A 4 (by omega); have t4 := tm B 6 (by omega); have t5 := tm A 40 (by omega)
  simp only [show ((24 : Nat) : Int) = 24 from rfl, show ((4 : Nat) : Int) = 4 from rfl, show ((6 : Nat) : Int) = 6 from rfl, show ((40 : Nat) : Int) = 40 from rfl] at t1 t2 t3 t4 t5
  unfold g_law29_LatticeConnects g_law29_sides
  have k1 : ∀ x : Nat, x < 256 → w64 (x : Int) = (x : Int) := fun x hx => w64_eq (by omega) (by omega)
  have k2 : ∀ x : Nat, x < 256 → w64 ((x : Int) + 1) = ((x + 1 : Nat) : Int) := fun x hx => by rw [w64, w64s (by omega)]
  have m1 : A % 24 < 24 := Nat.mod_lt _ (by omega)
  have m2 : B % 24 < 24 := Nat.mod_lt _ (by omega)
  have m3 : A % 4 < 4 := Nat.mod_lt _ (by omega)
  have m4 : B % 6 < 6 := Nat.mod_lt _ (by omega)
  have m5 : A % 40 < 40 := Nat.mod_lt _ (by omega)
  simp only [t1, t2, t3, t4, t5, k1 _ (show A % 24 < 256 by omega), k1 _ (show B % 24 < 256 by omega), k1 _ (show A % 4 < 256 by omega), k1 _ (show B % 6 < 256 by omega), k1 _ (show A % 40 < 256 by omega), k2 _ (show A % 24 < 256 by omega), k2 _ (show B % 24 < 256 by omega), k2 _ (show A % 4 < 256 by omega), k2 _ (show A % 40 < 256 by omega)]
  refine ⟨by omega, by omega, ?_⟩
  refine either_spec (A % 24 + 1) (B % 24 + 1) ⟨by omega, by omega⟩ ⟨by omega, by omega⟩ wx (!wx) three h _ fun s1 h1 Q1 f1 l1 q1 ok1 con1 => ⟨by omega, by omega, ?_⟩
  have tree : treeN (((A % 4 + 1 : Nat) : Int)) (Int.toNat ((B % 6 : Nat) : Int)) 1 1 ≠ none := by
    have := tree_some ⟨A % 4, m3⟩ ⟨B % 6, m4⟩
    rw [Int.toNat_natCast, show (((A % 4 + 1 : Nat) : Int)) = ((A % 4 : Nat) : Int) + 1 by omega]; exact this
  refine Tree_spec _ _ h1 _ (by omega) (fun bad => absurd bad ?_) fun _ _ n hn n1 n2 s2 h2 f2 l2 => ⟨by omega, ?_⟩
  · rintro (q | q | q)
    · omega
    · omega
    · exact tree q
  obtain ⟨N, rfl⟩ : ∃ N : Nat, n = N := ⟨n.toNat, by omega⟩
  have hn1 : 1 ≤ N := by omega
  have hn2 : N ≤ 4096 := by omega
  rw [Int.toNat_natCast, ← treeQ_eq] at l2
  refine complete_spec (A % 40 + 1) h2 _ (by omega) (by omega) fun s3 h3 f3 l3 => ?_
  rw [← completeQ_eq] at l3
  have z1 := f1.size; have z2 := f2.size; have z3 := f3.size
  have hab : (A % 24 + 1) * (B % 24 + 1) ≤ 24 * 24 := Nat.mul_le_mul (by omega) (by omega)
  have hab1 : 1 * 1 ≤ (A % 24 + 1) * (B % 24 + 1) := Nat.mul_le_mul (by omega) (by omega)
  refine cnd_t rfl (cnd_t rfl (cnd_t rfl (whole_spec _ s1 Q1 h3 ((l1.rd.fr f2).fr f3) ⟨by omega, by omega⟩ (by omega) ok1 con1 _ fun h4 f4 => cnd_t rfl ?_)))
  have z4 := f4.size
  have tn := l2.fl3n
  rw [treeQ_len] at tn
  refine whole_spec N s2 (treeQ (A % 4 + 1) (N - 1)) h4 ((l2.rd.fr f3).fr f4) ⟨hn1, hn2⟩ (by rw [treeQ_len]; omega) (fun u v g => ?_) (fun v => ?_) _ fun h5 f5 => cnd_t rfl (cnd_t ?_ ⟨by omega, ?_⟩)
  · obtain ⟨k, hk, rfl, rfl⟩ := treeQ_mem.1 g
    have := Nat.div_le_self k (A % 4 + 1)
    generalize k / (A % 4 + 1) = q at *
    omega
  · induction v using Nat.strongRecOn with
    | _ v ih =>
      intro hv
      by_cases e : v = 0
      · subst e; exact .refl 0
      · have hk := Nat.div_le_self (v - 1) (A % 4 + 1)
        refine .fwd (ih ((v - 1) / (A % 4 + 1)) ?_ ?_) (treeQ_mem.2 ⟨v - 1, by omega, rfl, by omega⟩)
        · generalize (v - 1) / (A % 4 + 1) = q at *; omega
        · generalize (v - 1) / (A % 4 + 1) = q at *; omega
  · rw [tn, w64, w64_eq (by omega) (by omega)]
    simp only [beq_iff_eq, Int.ofNat_eq_natCast]; omega
  have z5 := f5.size
  have ql : (completeQ (A % 40 + 1)).length ≤ 16384 := by
    have h := completeE_len (A % 40 + 1) (A % 40 + 1)
    rw [← completeQ_eq, fl3_len] at h
    have l3 : (A % 40 + 1) * ((A % 40 + 1) * 3) ≤ 40 * (40 * 3) := Nat.mul_le_mul (by omega) (by omega)
    omega
  refine whole_spec (A % 40 + 1) s3 (completeQ (A % 40 + 1)) h5 ((l3.rd.fr f4).fr f5) ⟨by omega, by omega⟩ ql (fun u v g => ?_) (fun v hv => ?_) _ fun h6 f6 => cnd_t rfl (works29_spec _ _ fun h' _ => hK h')
  · have := completeQ_mem.1 g; omega
  · by_cases e : v = 0
    · subst e; exact .refl 0
    · exact .one (completeQ_mem.2 ⟨by omega, hv⟩)

end Go.Hx
