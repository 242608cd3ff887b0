/- Wide numbers of the document. No condition. -/
import Derived.Test.YthohhnnjpaepnaaHxGrN
namespace Go.Hx
set_option linter.unusedSimpArgs false
set_option linter.unusedVariables false

/-- Limbs as cells. -/
def us (l : List Int) : List Value := l.map (.int .u64)
theorem us_len (l : List Int) : (us l).length = l.length := by simp [us]
theorem us_get {l : List Int} {i : Nat} (h : i < l.length) : (us l)[i]? = some (.int .u64 (l.getD i 0)) := by
  simp [us, List.getD, List.getElem?_map, List.getElem?_eq_getElem h]
theorem us_set (l : List Int) (i : Nat) (x : Int) : (us l).set i (.int .u64 x) = us (l.set i x) := by simp [us, List.map_set]

abbrev B32 : Int := 4294967296

/-- The limbs of a magnitude. -/
def lm (L : List Int) : Prop := L.length = 6 ∧ ∀ i, i < 6 → 0 ≤ L.getD i 0 ∧ L.getD i 0 < 4294967296
/-- The magnitude. -/
def vl (L : List Int) : Int := L.getD 0 0 + L.getD 1 0 * 4294967296 + L.getD 2 0 * 18446744073709551616 + L.getD 3 0 * 79228162514264337593543950336 + L.getD 4 0 * 340282366920938463463374607431768211456 + L.getD 5 0 * 1461501637330902918203684832716283019655932542976
abbrev TOP : Int := 6277101735386680763835789423207666416102355444464034512896

theorem u64e {x : Int} (h0 : 0 ≤ x) (h1 : x < 18446744073709551616) : IntKind.u64.wrap x = x := by rw [u64w]; exact Int.emod_eq_of_lt h0 h1

theorem tdivp {x : Int} (h : 0 ≤ x) (n : Int) : Int.tdiv x n = x / n := Int.tdiv_eq_ediv_of_nonneg h

theorem tmod32 {x : Int} (h : 0 ≤ x) : Int.tmod x 4294967296 = x % 4294967296 := Int.tmod_eq_emod_of_nonneg h

/-! ### Adding -/
def crM (A B : List Int) : Nat → Int
  | 0 => 0
  | i + 1 => (A.getD i 0 + B.getD i 0 + crM A B i) / 4294967296
def ouM (A B : List Int) (i : Nat) : Int := (A.getD i 0 + B.getD i 0 + crM A B i) % 4294967296

theorem crM_bd {A B : List Int} (ha : lm A) (hb : lm B) : ∀ i, i ≤ 6 → 0 ≤ crM A B i ∧ crM A B i ≤ 1
  | 0, _ => ⟨Int.le_refl _, by show (0 : Int) ≤ 1; decide⟩
  | i + 1, h => by
    have := crM_bd ha hb i (by omega)
    have := ha.2 i (by omega)
    have := hb.2 i (by omega)
    unfold crM
    omega

theorem more_val {A B : List Int} (ha : lm A) (hb : lm B) (h : vl A + vl B < TOP) : lm [ouM A B 0, ouM A B 1, ouM A B 2, ouM A B 3, ouM A B 4, ouM A B 5] ∧ vl [ouM A B 0, ouM A B 1, ouM A B 2, ouM A B 3, ouM A B 4, ouM A B 5] = vl A + vl B := by
  have c0 : crM A B 0 = 0 := rfl
  have c1 : crM A B 1 = (A.getD 0 0 + B.getD 0 0 + crM A B 0) / 4294967296 := rfl
  have c2 : crM A B 2 = (A.getD 1 0 + B.getD 1 0 + crM A B 1) / 4294967296 := rfl
  have c3 : crM A B 3 = (A.getD 2 0 + B.getD 2 0 + crM A B 2) / 4294967296 := rfl
  have c4 : crM A B 4 = (A.getD 3 0 + B.getD 3 0 + crM A B 3) / 4294967296 := rfl
  have c5 : crM A B 5 = (A.getD 4 0 + B.getD 4 0 + crM A B 4) / 4294967296 := rfl
  have c6 : crM A B 6 = (A.getD 5 0 + B.getD 5 0 + crM A B 5) / 4294967296 := rfl
  have b6 := crM_bd ha hb 6 (Nat.le_refl _)
  have e : ∀ i, ouM A B i = (A.getD i 0 + B.getD i 0 + crM A B i) - 4294967296 * crM A B (i + 1) := fun i => by
    unfold ouM
    have : crM A B (i + 1) = (A.getD i 0 + B.getD i 0 + crM A B i) / 4294967296 := rfl
    rw [this, Int.emod_def]
  have r : ∀ i, 0 ≤ ouM A B i ∧ ouM A B i < 4294967296 := fun i => ⟨Int.emod_nonneg _ (by omega), Int.emod_lt_of_pos _ (by omega)⟩
  refine ⟨⟨rfl, fun i hi => ?_⟩, ?_⟩
  · match i, hi with
    | 0, _ => exact r 0
    | 1, _ => exact r 1
    | 2, _ => exact r 2
    | 3, _ => exact r 3
    | 4, _ => exact r 4
    | 5, _ => exact r 5
  · have r0 := r 0; have r1 := r 1; have r2 := r 2; have r3 := r 3; have r4 := r 4; have r5 := r 5
    have e0 := e 0; have e1 := e 1; have e2 := e 2; have e3 := e 3; have e4 := e 4; have e5 := e 5
    show ouM A B 0 + ouM A B 1 * 4294967296 + ouM A B 2 * 18446744073709551616 + ouM A B 3 * 79228162514264337593543950336 + ouM A B 4 * 340282366920938463463374607431768211456 + ouM A B 5 * 1461501637330902918203684832716283019655932542976 = _
    unfold vl TOP at *
    clear c1 c2 c3 c4 c5 c6 e r ha hb
    simp only [Nat.zero_add, Nat.reduceAdd] at *
    omega

/-! ### Taking away -/
def brL (A B : List Int) : Nat → Int
  | 0 => 0
  | i + 1 => 1 - (A.getD i 0 + 4294967296 - B.getD i 0 - brL A B i) / 4294967296
def ouL (A B : List Int) (i : Nat) : Int := (A.getD i 0 + 4294967296 - B.getD i 0 - brL A B i) % 4294967296

theorem brL_bd {A B : List Int} (ha : lm A) (hb : lm B) : ∀ i, i ≤ 6 → 0 ≤ brL A B i ∧ brL A B i ≤ 1
  | 0, _ => ⟨Int.le_refl _, by show (0 : Int) ≤ 1; decide⟩
  | i + 1, h => by
    have := brL_bd ha hb i (by omega)
    have := ha.2 i (by omega)
    have := hb.2 i (by omega)
    unfold brL
    omega

theorem less_val {A B : List Int} (ha : lm A) (hb : lm B) (h : vl B ≤ vl A) : lm [ouL A B 0, ouL A B 1, ouL A B 2, ouL A B 3, ouL A B 4, ouL A B 5] ∧ vl [ouL A B 0, ouL A B 1, ouL A B 2, ouL A B 3, ouL A B 4, ouL A B 5] = vl A - vl B := by
  have c0 : brL A B 0 = 0 := rfl
  have b6 := brL_bd ha hb 6 (Nat.le_refl _)
  have e : ∀ i, ouL A B i = (A.getD i 0 + 4294967296 - B.getD i 0 - brL A B i) - 4294967296 * (1 - brL A B (i + 1)) := fun i => by
    unfold ouL
    have : brL A B (i + 1) = 1 - (A.getD i 0 + 4294967296 - B.getD i 0 - brL A B i) / 4294967296 := rfl
    rw [this, Int.emod_def]
    omega
  have r : ∀ i, 0 ≤ ouL A B i ∧ ouL A B i < 4294967296 := fun i => ⟨Int.emod_nonneg _ (by omega), Int.emod_lt_of_pos _ (by omega)⟩
  refine ⟨⟨rfl, fun i hi => ?_⟩, ?_⟩
  · match i, hi with
    | 0, _ => exact r 0
    | 1, _ => exact r 1
    | 2, _ => exact r 2
    | 3, _ => exact r 3
    | 4, _ => exact r 4
    | 5, _ => exact r 5
  · have r0 := r 0; have r1 := r 1; have r2 := r 2; have r3 := r 3; have r4 := r 4; have r5 := r 5
    have e0 := e 0; have e1 := e 1; have e2 := e 2; have e3 := e 3; have e4 := e 4; have e5 := e 5
    show ouL A B 0 + ouL A B 1 * 4294967296 + ouL A B 2 * 18446744073709551616 + ouL A B 3 * 79228162514264337593543950336 + ouL A B 4 * 340282366920938463463374607431768211456 + ouL A B 5 * 1461501637330902918203684832716283019655932542976 = _
    unfold vl at *
    clear e r ha hb
    simp only [Nat.zero_add, Nat.reduceAdd] at *
    omega

/-! ### The walk -/

/-- Six limbs go out. -/
theorem out6 {h : Hp} {p q : Nat} {x0 x1 x2 x3 x4 x5 : Int} {K : Int → Int → Int → Int → Int → Int → Hp → Prop} (bp : h.blk p = some (.cells (us [x0, x1, x2, x3, x4, x5]))) (bq : h.blk q = some (.cells (us [0, 0, 0, 0, 0, 0])))
    (hK : ∀ h', h'.size = h.size → (∀ c, c ≠ q → h'.blk c = h.blk c) → K x0 x1 x2 x3 x4 x5 h') :
    ldI .u64 h ⟨p, 0, none⟩ fun n15 => ldI .u64 h ⟨p, 1, none⟩ fun n16 => ldI .u64 h ⟨p, 2, none⟩ fun n17 => ldI .u64 h ⟨p, 3, none⟩ fun n18 => ldI .u64 h ⟨p, 4, none⟩ fun n19 => ldI .u64 h ⟨p, 5, none⟩ fun n20 =>
      stc h ⟨q, 0, none⟩ (.int .u64 n15) fun h21 => stc h21 ⟨q, 1, none⟩ (.int .u64 n16) fun h22 => stc h22 ⟨q, 2, none⟩ (.int .u64 n17) fun h23 => stc h23 ⟨q, 3, none⟩ (.int .u64 n18) fun h24 => stc h24 ⟨q, 4, none⟩ (.int .u64 n19) fun h25 => stc h25 ⟨q, 5, none⟩ (.int .u64 n20) fun h26 =>
      ldI .u64 h26 ⟨q, 0, none⟩ fun n27 => ldI .u64 h26 ⟨q, 1, none⟩ fun n28 => ldI .u64 h26 ⟨q, 2, none⟩ fun n29 => ldI .u64 h26 ⟨q, 3, none⟩ fun n30 => ldI .u64 h26 ⟨q, 4, none⟩ fun n31 => ldI .u64 h26 ⟨q, 5, none⟩ fun n32 => K n27 n28 n29 n30 n31 n32 h26 := by
  refine ldI_of (by rw [cell_own bp]; rfl) (ldI_of (by rw [cell_own bp]; rfl) (ldI_of (by rw [cell_own bp]; rfl) (ldI_of (by rw [cell_own bp]; rfl) (ldI_of (by rw [cell_own bp]; rfl) (ldI_of (by rw [cell_own bp]; rfl) ?_)))))
  refine stc_of bq (by simp [us]) fun h1 z1 b1 k1 => stc_of b1 (by simp [us]) fun h2 z2 b2 k2 => stc_of b2 (by simp [us]) fun h3 z3 b3 k3 => stc_of b3 (by simp [us]) fun h4 z4 b4 k4 => stc_of b4 (by simp [us]) fun h5 z5 b5 k5 => stc_of b5 (by simp [us]) fun h6 z6 b6 k6 => ?_
  refine ldI_of (by rw [cell_own b6]; rfl) (ldI_of (by rw [cell_own b6]; rfl) (ldI_of (by rw [cell_own b6]; rfl) (ldI_of (by rw [cell_own b6]; rfl) (ldI_of (by rw [cell_own b6]; rfl) (ldI_of (by rw [cell_own b6]; rfl) ?_)))))
  exact hK h6 (by omega) fun c hc => by rw [k6 _ hc, k5 _ hc, k4 _ hc, k3 _ hc, k2 _ hc, k1 _ hc]

theorem six {X : List Int} (h : X.length = 6) : X = [X.getD 0 0, X.getD 1 0, X.getD 2 0, X.getD 3 0, X.getD 4 0, X.getD 5 0] := by
  match X, h with
  | [_, _, _, _, _, _], _ => rfl

theorem us_six {A : List Int} (h : A.length = 6) : us A = [.int .u64 (A.getD 0 0), .int .u64 (A.getD 1 0), .int .u64 (A.getD 2 0), .int .u64 (A.getD 3 0), .int .u64 (A.getD 4 0), .int .u64 (A.getD 5 0)] := by
  conv => lhs; rw [six h]
  rfl

theorem more_spec {A B : List Int} (ha : lm A) (hb : lm B) (h : Hp) (K : Int → Int → Int → Int → Int → Int → Hp → Prop) (hK : ∀ h', Fr h.size h h' → K (ouM A B 0) (ouM A B 1) (ouM A B 2) (ouM A B 3) (ouM A B 4) (ouM A B 5) h') :
    g_ref01_more (A.getD 0 0) (A.getD 1 0) (A.getD 2 0) (A.getD 3 0) (A.getD 4 0) (A.getD 5 0) (B.getD 0 0) (B.getD 1 0) (B.getD 2 0) (B.getD 3 0) (B.getD 4 0) (B.getD 5 0) h K := by
  unfold g_ref01_more
  refine alo_of fun h2 z2 b2 k2 => alo_of fun h4 z4 b4 k4 => alo_of fun h6 z6 b6 k6 => alo_of fun h8 z8 b8 k8 => ?_
  have bA : h8.blk h.size = some (.cells (us A)) := by rw [k8 _ (by omega), k6 _ (by omega), k4 _ (by omega), b2, us_six ha.1]
  have bB : h8.blk h2.size = some (.cells (us B)) := by rw [k8 _ (by omega), k6 _ (by omega), b4, us_six hb.1]
  have b5 : h8.blk h4.size = some (.cells (us [0, 0, 0, 0, 0, 0])) := by rw [k8 _ (by omega)]; exact b6
  refine for_of 6 (fun i (t : Int × Int × Unit) g => t.2.1 = (i : Int) ∧ t.1 = crM A B i ∧ g.size = h8.size ∧ (∀ c, c ≠ h6.size → g.blk c = h8.blk c) ∧ ∃ X : List Int, g.blk h6.size = some (.cells (us X)) ∧ X.length = 6 ∧ ∀ j, j < i → X.getD j 0 = ouM A B j) ?_
    ⟨rfl, rfl, rfl, fun _ _ => rfl, [0, 0, 0, 0, 0, 0], b8, rfl, fun j hj => by omega⟩
  rintro i Kr ⟨_, _, _⟩ g hi ⟨rfl, rfl, zg, kg, X, bX, lX, hX⟩ hKr
  refine cnd_of (fun c => ?_) fun c => ?_
  · simp only [decide_eq_true_eq] at c
    have hi6 : i < 6 := by omega
    have a1 := ha.2 i hi6
    have b1 := hb.2 i hi6
    have c1 := crM_bd ha hb i (by omega)
    have la := ha.1
    have lb := hb.1
    simp only [add_mk, Nat.zero_add, Nat.add_zero, Nat.mul_one, Int.toNat_natCast]
    refine ⟨by omega, by omega, ldI_of (by rw [cell_own ((kg _ (by omega)).trans bA), us_get (by omega)]) ⟨by omega, by omega, ldI_of (by rw [cell_own ((kg _ (by omega)).trans bB), us_get (by omega)]) ⟨by omega, by omega, by omega, ?_⟩⟩⟩
    have e1 : IntKind.u64.wrap (A.getD i 0 + B.getD i 0) = A.getD i 0 + B.getD i 0 := u64e (by omega) (by omega)
    have e2 : IntKind.u64.wrap (A.getD i 0 + B.getD i 0 + crM A B i) = A.getD i 0 + B.getD i 0 + crM A B i := u64e (by omega) (by omega)
    rw [e1, e2, tmod32 (by omega), tdivp (by omega)]
    refine stc_of bX (by rw [us_len]; omega) fun g1 z1 b1' k1 => ⟨by omega, hKr hi6 _ _ ⟨?_, ?_, by omega, fun c hc => by rw [k1 _ hc, kg _ hc], X.set i (ouM A B i), ?_, by rw [List.length_set]; exact lX, fun j hj => ?_⟩⟩
    · simp only; rw [w64, w64s (by omega)]
    · show IntKind.u64.wrap _ = _
      rw [u64e (by omega) (by omega)]; rfl
    · rw [b1', us_set]; rfl
    · rw [getD_set]
      by_cases e : i = j
      · subst e; rw [if_pos ⟨rfl, by omega⟩]
      · rw [if_neg fun q => e q.1]; exact hX j (by omega)
  · simp only [decide_eq_false_iff_not] at c
    obtain rfl : i = 6 := by omega
    have e : X = [ouM A B 0, ouM A B 1, ouM A B 2, ouM A B 3, ouM A B 4, ouM A B 5] := by
      rw [six lX, hX 0 (by omega), hX 1 (by omega), hX 2 (by omega), hX 3 (by omega), hX 4 (by omega), hX 5 (by omega)]
    rw [e] at bX
    simp only [add_mk, Nat.zero_add, Nat.add_zero]
    refine out6 bX ((kg _ (by omega)).trans b5) fun h' z' k' => hK h' ⟨by omega, fun c hc => by rw [k' _ (by omega), kg _ (by omega), k8 _ (by omega), k6 _ (by omega), k4 _ (by omega), k2 _ hc]⟩

theorem less_spec {A B : List Int} (ha : lm A) (hb : lm B) (h : Hp) (K : Int → Int → Int → Int → Int → Int → Hp → Prop) (hK : ∀ h', Fr h.size h h' → K (ouL A B 0) (ouL A B 1) (ouL A B 2) (ouL A B 3) (ouL A B 4) (ouL A B 5) h') :
    g_ref01_less (A.getD 0 0) (A.getD 1 0) (A.getD 2 0) (A.getD 3 0) (A.getD 4 0) (A.getD 5 0) (B.getD 0 0) (B.getD 1 0) (B.getD 2 0) (B.getD 3 0) (B.getD 4 0) (B.getD 5 0) h K := by
  unfold g_ref01_less
  refine alo_of fun h2 z2 b2 k2 => alo_of fun h4 z4 b4 k4 => alo_of fun h6 z6 b6 k6 => alo_of fun h8 z8 b8 k8 => ?_
  have bA : h8.blk h.size = some (.cells (us A)) := by rw [k8 _ (by omega), k6 _ (by omega), k4 _ (by omega), b2, us_six ha.1]
  have bB : h8.blk h2.size = some (.cells (us B)) := by rw [k8 _ (by omega), k6 _ (by omega), b4, us_six hb.1]
  have b5 : h8.blk h4.size = some (.cells (us [0, 0, 0, 0, 0, 0])) := by rw [k8 _ (by omega)]; exact b6
  refine for_of 6 (fun i (t : Int × Int × Unit) g => t.2.1 = (i : Int) ∧ t.1 = brL A B i ∧ g.size = h8.size ∧ (∀ c, c ≠ h6.size → g.blk c = h8.blk c) ∧ ∃ X : List Int, g.blk h6.size = some (.cells (us X)) ∧ X.length = 6 ∧ ∀ j, j < i → X.getD j 0 = ouL A B j) ?_
    ⟨rfl, rfl, rfl, fun _ _ => rfl, [0, 0, 0, 0, 0, 0], b8, rfl, fun j hj => by omega⟩
  rintro i Kr ⟨_, _, _⟩ g hi ⟨rfl, rfl, zg, kg, X, bX, lX, hX⟩ hKr
  refine cnd_of (fun c => ?_) fun c => ?_
  · simp only [decide_eq_true_eq] at c
    have hi6 : i < 6 := by omega
    have a1 := ha.2 i hi6
    have b1 := hb.2 i hi6
    have c1 := brL_bd ha hb i (by omega)
    have c2 := brL_bd ha hb (i + 1) (by omega)
    have la := ha.1
    have lb := hb.1
    simp only [add_mk, Nat.zero_add, Nat.add_zero, Nat.mul_one, Int.toNat_natCast]
    refine ⟨by omega, by omega, ldI_of (by rw [cell_own ((kg _ (by omega)).trans bA), us_get (by omega)]) ⟨by omega, by omega, ldI_of (by rw [cell_own ((kg _ (by omega)).trans bB), us_get (by omega)]) ⟨by omega, by omega, by omega, ?_⟩⟩⟩
    have e1 : IntKind.u64.wrap (A.getD i 0 + 4294967296) = A.getD i 0 + 4294967296 := u64e (by omega) (by omega)
    have e2 : IntKind.u64.wrap (A.getD i 0 + 4294967296 - B.getD i 0) = A.getD i 0 + 4294967296 - B.getD i 0 := u64e (by omega) (by omega)
    have e3 : IntKind.u64.wrap (A.getD i 0 + 4294967296 - B.getD i 0 - brL A B i) = A.getD i 0 + 4294967296 - B.getD i 0 - brL A B i := u64e (by omega) (by omega)
    rw [e1, e2, e3, tmod32 (by omega), tdivp (by omega)]
    refine stc_of bX (by rw [us_len]; omega) fun g1 z1 b1' k1 => ⟨by omega, hKr hi6 _ _ ⟨?_, ?_, by omega, fun c hc => by rw [k1 _ hc, kg _ hc], X.set i (ouL A B i), ?_, by rw [List.length_set]; exact lX, fun j hj => ?_⟩⟩
    · simp only; rw [w64, w64s (by omega)]
    · show IntKind.u64.wrap (1 - IntKind.u64.wrap _) = _
      have c3 : brL A B (i + 1) = 1 - (A.getD i 0 + 4294967296 - B.getD i 0 - brL A B i) / 4294967296 := rfl
      rw [u64e (x := (A.getD i 0 + 4294967296 - B.getD i 0 - brL A B i) / 4294967296) (by omega) (by omega), ← c3, u64e (by omega) (by omega)]
    · rw [b1', us_set]; rfl
    · rw [getD_set]
      by_cases e : i = j
      · subst e; rw [if_pos ⟨rfl, by omega⟩]
      · rw [if_neg fun q => e q.1]; exact hX j (by omega)
  · simp only [decide_eq_false_iff_not] at c
    obtain rfl : i = 6 := by omega
    have e : X = [ouL A B 0, ouL A B 1, ouL A B 2, ouL A B 3, ouL A B 4, ouL A B 5] := by
      rw [six lX, hX 0 (by omega), hX 1 (by omega), hX 2 (by omega), hX 3 (by omega), hX 4 (by omega), hX 5 (by omega)]
    rw [e] at bX
    simp only [add_mk, Nat.zero_add, Nat.add_zero]
    refine out6 bX ((kg _ (by omega)).trans b5) fun h' z' k' => hK h' ⟨by omega, fun c hc => by rw [k' _ (by omega), kg _ (by omega), k8 _ (by omega), k6 _ (by omega), k4 _ (by omega), k2 _ hc]⟩

theorem size_spec {A B : List Int} (ha : lm A) (hb : lm B) (h : Hp) (K : Int → Hp → Prop) (hK : ∀ h' r, Fr h.size h h' → (r ≥ 0 ↔ vl B ≤ vl A) → K r h') :
    g_ref01_size (A.getD 0 0) (A.getD 1 0) (A.getD 2 0) (A.getD 3 0) (A.getD 4 0) (A.getD 5 0) (B.getD 0 0) (B.getD 1 0) (B.getD 2 0) (B.getD 3 0) (B.getD 4 0) (B.getD 5 0) h K := by
  unfold g_ref01_size
  refine alo_of fun h2 z2 b2 k2 => alo_of fun h4 z4 b4 k4 => ?_
  have bA : h4.blk h.size = some (.cells (us A)) := by rw [k4 _ (by omega), b2, us_six ha.1]
  have bB : h4.blk h2.size = some (.cells (us B)) := by rw [b4, us_six hb.1]
  have F : Fr h.size h h4 := ⟨by omega, fun c hc => by rw [k4 _ (by omega), k2 _ hc]⟩
  have la := ha.1
  have lb := hb.1
  have A0 := ha.2 0 (by omega); have A1 := ha.2 1 (by omega); have A2 := ha.2 2 (by omega); have A3 := ha.2 3 (by omega); have A4 := ha.2 4 (by omega); have A5 := ha.2 5 (by omega)
  have B0 := hb.2 0 (by omega); have B1 := hb.2 1 (by omega); have B2 := hb.2 2 (by omega); have B3 := hb.2 3 (by omega); have B4 := hb.2 4 (by omega); have B5 := hb.2 5 (by omega)
  have dif : ∀ i, i < 6 → (∀ j, i < j → j < 6 → A.getD j 0 = B.getD j 0) → (A.getD i 0 < B.getD i 0 → vl A < vl B) ∧ (A.getD i 0 > B.getD i 0 → vl B ≤ vl A) := fun i hi hj => by
    unfold vl
    match i, hi with
    | 0, _ => have := hj 1 (by omega) (by omega); have := hj 2 (by omega) (by omega); have := hj 3 (by omega) (by omega); have := hj 4 (by omega) (by omega); have := hj 5 (by omega) (by omega); omega
    | 1, _ => have := hj 2 (by omega) (by omega); have := hj 3 (by omega) (by omega); have := hj 4 (by omega) (by omega); have := hj 5 (by omega) (by omega); omega
    | 2, _ => have := hj 3 (by omega) (by omega); have := hj 4 (by omega) (by omega); have := hj 5 (by omega) (by omega); omega
    | 3, _ => have := hj 4 (by omega) (by omega); have := hj 5 (by omega) (by omega); omega
    | 4, _ => have := hj 5 (by omega) (by omega); omega
    | 5, _ => omega
  refine for_of 6 (fun q (t : Int × Unit) g => t.1 = 5 - (q : Int) ∧ g = h4 ∧ ∀ j, 6 ≤ j + q → j < 6 → A.getD j 0 = B.getD j 0) ?_ ⟨rfl, rfl, fun j h1 h2 => by omega⟩
  rintro q Kr ⟨_, _⟩ g hq ⟨rfl, eg, hj⟩ hKr
  rw [eg]
  refine cnd_of (fun c => ?_) fun c => ?_
  · simp only [ge_iff_le, decide_eq_true_eq] at c
    obtain ⟨i, hi⟩ : ∃ i : Nat, (5 : Int) - (q : Int) = i := ⟨5 - q, by omega⟩
    simp only [hi]
    have hi6 : i < 6 := by omega
    obtain ⟨d1, d2⟩ := dif i hi6 fun j h1 h2 => hj j (by omega) h2
    simp only [add_mk, Nat.zero_add, Nat.add_zero, Nat.mul_one, Int.toNat_natCast]
    have rA : ∀ K : Int → Prop, K (A.getD i 0) → ldI .u64 h4 ⟨h.size, i, none⟩ K := fun K hk => ldI_of (by rw [cell_own bA, us_get (by omega)]) hk
    have rB : ∀ K : Int → Prop, K (B.getD i 0) → ldI .u64 h4 ⟨h2.size, i, none⟩ K := fun K hk => ldI_of (by rw [cell_own bB, us_get (by omega)]) hk
    refine ⟨by omega, by omega, rA _ ⟨by omega, by omega, rB _ (cnd_of (fun c1 => ?_) fun c1 => ⟨by omega, by omega, rA _ ⟨by omega, by omega, rB _ (cnd_of (fun c2 => ?_) fun c2 => ?_)⟩⟩)⟩⟩
    · simp only [decide_eq_true_eq] at c1
      have := d1 c1
      exact hK h4 (-1) F ⟨fun h => by omega, fun h => by omega⟩
    · simp only [decide_eq_true_eq] at c2
      have := d2 c2
      exact hK h4 1 F ⟨fun h => by omega, fun h => by omega⟩
    · simp only [decide_eq_false_iff_not] at c1 c2
      refine hKr (by omega) _ _ ⟨?_, rfl, fun j h1 h2 => ?_⟩
      · simp only; rw [w64, w64_eq (by omega) (by omega)]; omega
      · by_cases e : j = i
        · subst e; omega
        · exact hj j (by omega) h2
  · simp only [ge_iff_le, decide_eq_false_iff_not] at c
    obtain rfl : q = 6 := by omega
    refine hK h4 0 F ⟨fun _ => ?_, fun _ => Int.le_refl _⟩
    have x0 := hj 0 (by omega) (by omega); have x1 := hj 1 (by omega) (by omega); have x2 := hj 2 (by omega) (by omega); have x3 := hj 3 (by omega) (by omega); have x4 := hj 4 (by omega) (by omega); have x5 := hj 5 (by omega) (by omega)
    unfold vl
    omega

end Go.Hx
