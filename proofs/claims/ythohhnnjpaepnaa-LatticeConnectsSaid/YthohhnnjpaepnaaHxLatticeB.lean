/- What the lattices' builders compute, over the abstract heap. No condition. -/
import Derived.Test.YthohhnnjpaepnaaHxLattice
namespace Go.Hx
set_option linter.unusedSimpArgs false
set_option linter.unusedVariables false

def stepV (a b n : Int) (wrap : Bool) : Int × Bool := if a + b = n ∧ wrap = true ∧ n ≥ 3 then (0, true) else (a + b, decide (a + b < n))

theorem step_spec (a b n : Int) (wrap : Bool) (H : Hp) (K : Int → Bool → Hp → Prop) (ha : 0 ≤ a) (ha' : a ≤ 4096) (hb : 0 ≤ b) (hb' : b ≤ 1)
    (hK : K (stepV a b n wrap).1 (stepV a b n wrap).2 H) : g_lattice_step a b n wrap H K := by
  unfold g_lattice_step
  rw [w64, w64_eq (by omega) (by omega)]
  unfold stepV at hK
  refine cnd_of (fun c => cnd_of (fun d => cnd_of (fun e => ?_) fun e => ?_) fun d => ?_) fun c => ?_
  all_goals simp only [decide_eq_true_eq, decide_eq_false_iff_not, beq_iff_eq, beq_eq_false_iff_ne] at *
  · rw [if_pos ⟨c, d, e⟩] at hK
    rw [decide_eq_true (by omega)]; exact hK
  · rw [if_neg (by omega)] at hK; exact hK
  · rw [if_neg (by simp [d])] at hK; exact hK
  · rw [if_neg (by simp [c])] at hK; exact hK

/-- The edges from one place by one direction. -/
def edgeL (w h : Int) (wx wy : Bool) (M : List Int) (y x i : Nat) : List Int :=
  if (stepV x (M.getD (i * 2) 0) w wx).2 = true ∧ (stepV y (M.getD (i * 2 + 1) 0) h wy).2 = true then
    [(y : Int) * w + x, (stepV y (M.getD (i * 2 + 1) 0) h wy).1 * w + (stepV x (M.getD (i * 2) 0) w wx).1, 0] else []
def placeL (w h : Int) (wx wy : Bool) (M : List Int) (n y x : Nat) : List Int := (List.range n).flatMap (edgeL w h wx wy M y x)
def rowL (w h : Int) (wx wy : Bool) (M : List Int) (n y : Nat) : List Int := (List.range w.toNat).flatMap (placeL w h wx wy M n y)
def gridL (w h : Int) (wx wy : Bool) (M : List Int) (n : Nat) : List Int := (List.range h.toNat).flatMap (rowL w h wx wy M n)

theorem edgeL_len (w h : Int) (wx wy : Bool) (M : List Int) (y x i : Nat) : (edgeL w h wx wy M y x i).length ≤ 3 := by
  unfold edgeL; split <;> simp
theorem placeL_len (w h : Int) (wx wy : Bool) (M : List Int) (n y x : Nat) : (placeL w h wx wy M n y x).length ≤ n * 3 := flatMap_len _ _ _ (edgeL_len w h wx wy M y x)
theorem rowL_len (w h : Int) (wx wy : Bool) (M : List Int) (n y : Nat) : (rowL w h wx wy M n y).length ≤ w.toNat * (n * 3) := flatMap_len _ _ _ (placeL_len w h wx wy M n y)

theorem stepV_le {a b n : Int} {wrap : Bool} (ha : 0 ≤ a) (hb : 0 ≤ b) (ht : (stepV a b n wrap).2 = true) : 0 ≤ (stepV a b n wrap).1 ∧ ((stepV a b n wrap).1 < n ∨ n ≤ a) := by
  unfold stepV at *
  split
  · simp; omega
  · rename_i hn
    rw [if_neg hn] at ht
    simp at ht ⊢
    omega

theorem grid_spec (w h : Int) (wx wy : Bool) (x : Sl) (M : List Int) (H : Hp) (K : Int → Sl → Int → Hp → Prop)
    (hM : H.seg x.a (x.n * 2) = some (ints M)) (hd : ∀ d ∈ M, 0 ≤ d ∧ d ≤ 1) (hl : x.n ≤ 3) (hlt : ∀ a, x.a = some a → a.block < H.size)
    (hb : ¬ goodG w h → ∀ H', Fr H.size H H' → K 0 ⟨none, 0, 0⟩ 2 H')
    (hg : goodG w h → ∀ s H', Fr H.size H H' → Lst H' 3 s (ints (gridL w h wx wy M x.n)) H.size → K (w * h) s 0 H') : g_lattice_grid w h wx wy x H K := by
  unfold g_lattice_grid
  refine alo_of fun H1 z1 b1 k1 => alo_of fun H2 z2 b2 k2 => alo_of fun H3 z3 b3 k3 => alo_of fun H4 z4 b4 k4 => ?_
  have hMl : M.length = x.n * 2 := by have := seg_len hM; rwa [ints_len] at this
  have fr4 : Fr H.size H H4 := ⟨by omega, fun c hc => by rw [k4 c (by omega), k3 c (by omega), k2 c (by omega), k1 c hc]⟩
  have c1 : H4.cell ⟨H.size, 0, none⟩ = some (.int .i64 w) := by rw [cell_own (xs := [.int .i64 w]) (by rw [k4 _ (by omega), k3 _ (by omega), k2 _ (by omega), b1])]; rfl
  have c2 : H4.cell ⟨H1.size, 0, none⟩ = some (.int .i64 h) := by rw [cell_own (xs := [.int .i64 h]) (by rw [k4 _ (by omega), k3 _ (by omega), b2])]; rfl
  have c3 : H4.cell ⟨H2.size, 0, none⟩ = some (.bool wx) := by rw [cell_own (xs := [.bool wx]) (by rw [k4 _ (by omega), b3])]; rfl
  have c4 : H4.cell ⟨H3.size, 0, none⟩ = some (.bool wy) := by rw [cell_own b4]; rfl
  have up : ∀ H', Fr H4.size H4 H' → H'.cell ⟨H.size, 0, none⟩ = some (.int .i64 w) ∧ H'.cell ⟨H1.size, 0, none⟩ = some (.int .i64 h) ∧ H'.cell ⟨H2.size, 0, none⟩ = some (.bool wx) ∧ H'.cell ⟨H3.size, 0, none⟩ = some (.bool wy) ∧
      H'.seg x.a (x.n * 2) = some (ints M) := fun H' fr =>
    ⟨by rw [cell_blk (fr.blk _ (by simp only; omega)), c1], by rw [cell_blk (fr.blk _ (by simp only; omega)), c2], by rw [cell_blk (fr.blk _ (by simp only; omega)), c3], by rw [cell_blk (fr.blk _ (by simp only; omega)), c4],
      by rw [seg_blk (h := H) (fun a ha => by have := hlt a ha; rw [fr.blk _ (by omega), fr4.blk _ this]), hM]⟩
  refine ldI_of c1 (ldI_of c2 (check_spec _ _ _ _ (fun hbad => cnd_t (by rfl) (hb hbad _ fr4)) fun hgood => cnd_f (by rfl) ?_))
  have g := goodG_le hgood
  have hw0 := hgood.1
  have hh0 := hgood.2.1
  refine ldI_of c2 ?_
  refine for_of h.toNat (fun y t Hc => t.2.1 = (y : Int) ∧ Lst Hc 3 t.1 (ints ((List.range y).flatMap (rowL w h wx wy M x.n))) H4.size ∧ Fr H4.size H4 Hc) ?_ ⟨rfl, by simpa [ints] using Lst.nil H4 3 H4.size, Fr.refl _ _⟩
  rintro y K1 ⟨s, y', u⟩ Hy hyn ⟨rfl, hLy, hFy⟩ hK1
  have Ly := flatMap_len (rowL w h wx wy M x.n) _ y (rowL_len w h wx wy M x.n)
  refine cnd_of (fun c => ?_) fun c => ?_
  · simp only [decide_eq_true_eq] at c
    refine ldI_of (up Hy hFy).1 ?_
    refine for_of w.toNat (fun k t Hc => t.2.1 = (k : Int) ∧ Lst Hc 3 t.1 (ints ((List.range y).flatMap (rowL w h wx wy M x.n) ++ (List.range k).flatMap (placeL w h wx wy M x.n y))) H4.size ∧ Fr H4.size H4 Hc) ?_ ⟨rfl, by simpa using hLy, hFy⟩
    rintro k K2 ⟨s2, k', u2⟩ Hk hkn ⟨rfl, hLk, hFk⟩ hK2
    have Lk := flatMap_len (placeL w h wx wy M x.n y) _ k (placeL_len w h wx wy M x.n y)
    refine cnd_of (fun c2 => ?_) fun c2 => ?_
    · simp only [decide_eq_true_eq] at c2
      refine for_of x.n (fun i t Hc => t.2.1 = (i : Int) ∧ Lst Hc 3 t.1 (ints ((List.range y).flatMap (rowL w h wx wy M x.n) ++ (List.range k).flatMap (placeL w h wx wy M x.n y) ++ (List.range i).flatMap (edgeL w h wx wy M y k))) H4.size ∧ Fr H4.size H4 Hc) ?_ ⟨rfl, by simpa using hLk, hFk⟩
      rintro i K3 ⟨s3, i', u3⟩ Hi hin ⟨rfl, hLi, hFi⟩ hK3
      have Li := flatMap_len (edgeL w h wx wy M y k) _ i (edgeL_len w h wx wy M y k)
      simp only
      refine cnd_of (fun c3 => ?_) fun c3 => ?_
      · simp only [decide_eq_true_eq, Int.ofNat_eq_natCast] at c3
        obtain ⟨q1, q2, q3, q4, q5⟩ := up Hi hFi
        refine ix_seg q5 (by omega) (by omega) (by omega) fun a ha hs hc => ?_
        rw [add_add _ _ _ hs, add_add _ _ _ hs]
        have d1 := hd (M.getD (i * 2) 0) (by rw [List.getD, List.getElem?_eq_getElem (by omega)]; exact List.getElem_mem _)
        have d2 := hd (M.getD (i * 2 + 1) 0) (by rw [List.getD, List.getElem?_eq_getElem (by omega)]; exact List.getElem_mem _)
        refine ldI_of (v := M.getD (i * 2) 0) (by rw [show Int.toNat (i : Int) = i from rfl, Nat.add_zero, hc _ (by omega), ints_getD (by omega)]) (ldI_of (v := M.getD (i * 2 + 1) 0) (by rw [show Int.toNat (i : Int) = i from rfl, hc _ (by omega), ints_getD (by omega)]) ?_)
        refine alo_of fun H5 z5 b5 k5 => ?_
        rw [add_mk, add_mk]
        refine stc_of b5 (by simp) fun H6 z6 b6 k6 => stc_of b6 (by simp) fun H7 z7 b7 k7 => ?_
        simp only [List.set_cons_zero, List.set_cons_succ, Nat.zero_add] at b7
        refine ldI_of (by rw [cell_own b7]; rfl) (ldI_of (by rw [cell_own b7]; rfl) ?_)
        unfold g_lattice_grid_f1
        refine alo_of fun H8 z8 b8 k8 => ?_
        have fr8 : Fr Hi.size Hi H8 := ⟨by omega, fun c hc => by rw [k8 c (by omega), k7 c (by omega), k6 c (by omega), k5 c hc]⟩
        have hsz := hFi.size
        have fr8' : Fr H4.size H4 H8 := hFi.trans (fr8.mono hsz)
        obtain ⟨p1, p2, p3, p4, p5⟩ := up H8 fr8'
        rw [add_mk, add_mk]
        refine ⟨by omega, by omega, ldI_of (by rw [cell_own b8]; rfl) (ldI_of p1 (ldB_of p3 ?_))⟩
        refine step_spec _ _ _ _ _ _ (by omega) (by omega) d1.1 d1.2 ?_
        refine ⟨by omega, by omega, ldI_of (by rw [cell_own b8]; rfl) (ldI_of p2 (ldB_of p4 ?_))⟩
        refine step_spec _ _ _ _ _ _ (by omega) (by omega) d2.1 d2.2 ?_
        refine ldI_of p1 ?_
        have next : ∀ s' H', H'.size ≥ H8.size → Fr H4.size H4 H' → Lst H' 3 s' (ints ((List.range y).flatMap (rowL w h wx wy M x.n) ++ (List.range k).flatMap (placeL w h wx wy M x.n y) ++ (List.range i).flatMap (edgeL w h wx wy M y k)) ++ ints (edgeL w h wx wy M y k i)) H4.size → K3 (s', w64 (i + 1), ()) H' := by
          intro s' H' hz fr hL
          refine hK3 (by omega) _ _ ⟨?_, ?_, fr⟩
          · rw [w64, w64_eq (by omega) (by omega)]; rfl
          · rw [flatMap_succ, ← List.append_assoc, ints_app]; exact hL
        have keep8 : Lst H8 3 s3 (ints ((List.range y).flatMap (rowL w h wx wy M x.n) ++ (List.range k).flatMap (placeL w h wx wy M x.n y) ++ (List.range i).flatMap (edgeL w h wx wy M y k))) H4.size :=
          hLi.keep fr8.size fun a ha => fr8.blk _ (hLi.blk_lt ha).2.1
        have skip : ¬ ((stepV k (M.getD (i * 2) 0) w wx).2 = true ∧ (stepV y (M.getD (i * 2 + 1) 0) h wy).2 = true) → K3 (⟨s3.a, s3.n, s3.c⟩, w64 (i + 1), ()) H8 := fun hno =>
          next _ _ (Nat.le_refl _) fr8' (by rw [edgeL, if_neg hno]; simpa [ints] using keep8)
        refine cnd_of (fun e1 => cnd_of (fun e2 => ?_) fun e2 => skip (fun hh => by rw [hh.2] at e2; cases e2)) fun e1 => cnd_f (by rfl) (skip (fun hh => by rw [hh.1] at e1; cases e1))
        refine ldI_of p1 ?_
        refine alo_of fun H9 z9 b9 k9 => ?_
        have fr9 : Fr H8.size H8 H9 := ⟨by omega, k9⟩
        have v1 := stepV_le (n := w) (wrap := wx) (a := k) (by omega) d1.1 e1
        have v2 := stepV_le (n := h) (wrap := wy) (a := y) (by omega) d2.1 e2
        have m1 : (y : Int) * w ≤ 4096 * 4096 := Int.mul_le_mul (by omega) (by omega) (by omega) (by omega)
        have m1' : 0 ≤ (y : Int) * w := Int.mul_nonneg (by omega) (by omega)
        have m2 : (stepV y (M.getD (i * 2 + 1) 0) h wy).1 * w ≤ 4096 * 4096 := Int.mul_le_mul (by omega) (by omega) (by omega) (by omega)
        have m2' : 0 ≤ (stepV y (M.getD (i * 2 + 1) 0) h wy).1 * w := Int.mul_nonneg (by omega) (by omega)
        have f1 : w64 (w64 ((y : Int) * w) + k) = y * w + k := by simp only [w64]; rw [w64_eq (x := (y : Int) * w) (by omega) (by omega), w64_eq (by omega) (by omega)]
        have f2 : w64 (w64 ((stepV y (M.getD (i * 2 + 1) 0) h wy).1 * w) + (stepV k (M.getD (i * 2) 0) w wx).1) = (stepV y (M.getD (i * 2 + 1) 0) h wy).1 * w + (stepV k (M.getD (i * 2) 0) w wx).1 := by
          simp only [w64]; rw [w64_eq (x := (stepV y (M.getD (i * 2 + 1) 0) h wy).1 * w) (by omega) (by omega), w64_eq (by omega) (by omega)]
        rw [f1, f2] at b9
        have Lall : s3.n ≤ 4096 * 4096 * 9 * 3 := by
          have h1 := hLi.1
          simp only [ints_len, List.length_append] at h1
          have u1 : y * (w.toNat * (x.n * 3)) ≤ 4096 * (4096 * (3 * 3)) := Nat.mul_le_mul (by omega) (Nat.mul_le_mul (by omega) (by omega))
          have u2 : k * (x.n * 3) ≤ 4096 * (3 * 3) := Nat.mul_le_mul (by omega) (by omega)
          omega
        refine app_lst (x := ⟨some ⟨H8.size, 0, none⟩, 1, 1⟩) (news := [.int .i64 ((y : Int) * w + k), .int .i64 ((stepV y (M.getD (i * 2 + 1) 0) h wy).1 * w + (stepV k (M.getD (i * 2) 0) w wx).1), .int .i64 0])
          (keep8.keep (by omega) fun a ha => k9 _ (keep8.blk_lt ha).2.1) (by have := fr8'.size; omega) (by rw [seg_row (row_own b9) (by simp)]; rfl) (by simp [Value.oneCell]) rfl (by simp only; omega) (by simp only; omega) ?_
        intro s' H' hL hn hz fr ho ha
        exact next _ _ (by omega) ((fr8'.trans (fr9.mono fr8'.size)).trans fr) (by rw [edgeL, if_pos ⟨e1, e2⟩]; exact hL)
      · simp only [decide_eq_false_iff_not, Int.ofNat_eq_natCast] at c3
        have : i = x.n := by omega
        subst this
        refine hK2 (by omega) _ _ ⟨?_, ?_, hFi⟩
        · rw [w64, w64_eq (by omega) (by omega)]; rfl
        · rw [flatMap_succ, ← List.append_assoc]; exact hLi
    · simp only [decide_eq_false_iff_not] at c2
      have : k = w.toNat := by omega
      subst this
      refine hK1 (by omega) _ _ ⟨?_, ?_, hFk⟩
      · show w64 ((y : Int) + 1) = ((y + 1 : Nat) : Int)
        rw [w64, w64_eq (by omega) (by omega)]; rfl
      · rw [flatMap_succ]; exact hLk
  · simp only [decide_eq_false_iff_not] at c
    have : y = h.toNat := by omega
    subst this
    obtain ⟨q1, q2, -⟩ := up Hy hFy
    refine ldI_of q1 (ldI_of q2 ?_)
    have m1 : 0 ≤ w * h := Int.mul_nonneg (by omega) (by omega)
    have := hgood.2.2
    have e : w64 (w * h) = w * h := w64_eq (x := w * h) (by omega) (by omega)
    rw [e]
    exact hg hgood _ _ (fr4.trans (hFy.mono fr4.size)) (hLy.le fr4.size)

end Go.Hx
