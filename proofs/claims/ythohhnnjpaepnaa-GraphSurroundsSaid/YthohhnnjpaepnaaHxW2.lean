/- Sums by wide numbers of the document. No condition. -/
import Derived.Test.YthohhnnjpaepnaaHxW1
namespace Go.Hx
set_option linter.unusedSimpArgs false
set_option linter.unusedVariables false

/-- An integer: its sign and its limbs. -/
def WV (ng : Bool) (A : List Int) (S : Int) : Prop := lm A ∧ S = if ng then - vl A else vl A

theorem vl_nn {A : List Int} (h : lm A) : 0 ≤ vl A := by
  have A0 := h.2 0 (by omega); have A1 := h.2 1 (by omega); have A2 := h.2 2 (by omega); have A3 := h.2 3 (by omega); have A4 := h.2 4 (by omega); have A5 := h.2 5 (by omega)
  unfold vl
  omega

/-- Seven cells go in and out. -/
theorem out7 {h : Hp} {q : Nat} {b0 b : Bool} {y0 y1 y2 y3 y4 y5 x0 x1 x2 x3 x4 x5 : Int} {K : Bool → Int → Int → Int → Int → Int → Int → Hp → Prop} (bq : h.blk q = some (.cells (.bool b0 :: us [y0, y1, y2, y3, y4, y5])))
    (hK : ∀ h', h'.size = h.size → h'.blk q = some (.cells (.bool b :: us [x0, x1, x2, x3, x4, x5])) → (∀ c, c ≠ q → h'.blk c = h.blk c) → K b x0 x1 x2 x3 x4 x5 h') :
    stc h ⟨q, 0, none⟩ (.bool b) fun h29 => stc h29 ⟨q, 1, none⟩ (.int .u64 x0) fun h30 => stc h30 ⟨q, 2, none⟩ (.int .u64 x1) fun h31 => stc h31 ⟨q, 3, none⟩ (.int .u64 x2) fun h32 => stc h32 ⟨q, 4, none⟩ (.int .u64 x3) fun h33 => stc h33 ⟨q, 5, none⟩ (.int .u64 x4) fun h34 => stc h34 ⟨q, 6, none⟩ (.int .u64 x5) fun h35 =>
      ldB h35 ⟨q, 0, none⟩ fun b36 => ldI .u64 h35 ⟨q, 1, none⟩ fun n37 => ldI .u64 h35 ⟨q, 2, none⟩ fun n38 => ldI .u64 h35 ⟨q, 3, none⟩ fun n39 => ldI .u64 h35 ⟨q, 4, none⟩ fun n40 => ldI .u64 h35 ⟨q, 5, none⟩ fun n41 => ldI .u64 h35 ⟨q, 6, none⟩ fun n42 => K b36 n37 n38 n39 n40 n41 n42 h35 := by
  refine stc_of bq (by simp [us]) fun h0 z0 b0 k0 => stc_of b0 (by simp [us]) fun h1 z1 b1 k1 => stc_of b1 (by simp [us]) fun h2 z2 b2 k2 => stc_of b2 (by simp [us]) fun h3 z3 b3 k3 => stc_of b3 (by simp [us]) fun h4 z4 b4 k4 => stc_of b4 (by simp [us]) fun h5 z5 b5 k5 => stc_of b5 (by simp [us]) fun h6 z6 b6 k6 => ?_
  refine ldB_of (by rw [cell_own b6]; rfl) (ldI_of (by rw [cell_own b6]; rfl) (ldI_of (by rw [cell_own b6]; rfl) (ldI_of (by rw [cell_own b6]; rfl) (ldI_of (by rw [cell_own b6]; rfl) (ldI_of (by rw [cell_own b6]; rfl) (ldI_of (by rw [cell_own b6]; rfl) ?_))))))
  exact hK h6 (by omega) b6 fun c hc => by rw [k6 _ hc, k5 _ hc, k4 _ hc, k3 _ hc, k2 _ hc, k1 _ hc, k0 _ hc]

/-- The six limbs of a wide number are read. -/
theorem in6 {h : Hp} {q : Nat} {b : Bool} {A : List Int} (hA : A.length = 6) {K : Int → Int → Int → Int → Int → Int → Prop} (bq : h.blk q = some (.cells (.bool b :: us A))) (hK : K (A.getD 0 0) (A.getD 1 0) (A.getD 2 0) (A.getD 3 0) (A.getD 4 0) (A.getD 5 0)) :
    ldI .u64 h ⟨q, 1, none⟩ fun n10 => ldI .u64 h ⟨q, 2, none⟩ fun n11 => ldI .u64 h ⟨q, 3, none⟩ fun n12 => ldI .u64 h ⟨q, 4, none⟩ fun n13 => ldI .u64 h ⟨q, 5, none⟩ fun n14 => ldI .u64 h ⟨q, 6, none⟩ fun n15 => K n10 n11 n12 n13 n14 n15 := by
  rw [us_six hA] at bq
  exact ldI_of (by rw [cell_own bq]; rfl) (ldI_of (by rw [cell_own bq]; rfl) (ldI_of (by rw [cell_own bq]; rfl) (ldI_of (by rw [cell_own bq]; rfl) (ldI_of (by rw [cell_own bq]; rfl) (ldI_of (by rw [cell_own bq]; rfl) hK)))))

theorem From_spec {x : Int} (hx : i64ok x) (h : Hp) (K : Bool → Int → Int → Int → Int → Int → Int → Hp → Prop)
    (hK : ∀ h' ng m0 m1, Fr h.size h h' → WV ng [m0, m1, 0, 0, 0, 0] x → m1 < 4294967296 → K ng m0 m1 0 0 0 0 h') : g_ref01_From x h K := by
  unfold i64ok at hx
  unfold g_ref01_From
  refine alo_of fun h2 z2 b2 k2 => ?_
  refine jn_of (fun (t : Int × Unit) g => t.1 = (if x < 0 then -x else x) ∧ g = h2) ?_ fun K5 hK5 => ?_
  case refine_2 =>
    refine cnd_of (fun c => ?_) fun c => ?_
    · simp only [decide_eq_true_eq] at c
      refine hK5 _ _ ⟨?_, rfl⟩
      simp only
      rw [if_pos c]
      have e1 : w64 (x + 1) = x + 1 := by rw [w64, w64_eq (by omega) (by omega)]
      have e2 : IntKind.i64.wrap (0 - (x + 1)) = 0 - (x + 1) := w64_eq (by omega) (by omega)
      have e3 : IntKind.u64.wrap (0 - (x + 1)) = 0 - (x + 1) := u64e (by omega) (by omega)
      rw [e1, e2, e3, u64e (by omega) (by omega)]; omega
    · simp only [decide_eq_false_iff_not] at c
      refine hK5 _ _ ⟨?_, rfl⟩
      simp only
      rw [if_neg c, u64e (by omega) (by omega)]
  rintro ⟨m, _⟩ g ⟨em, eg⟩
  rw [eg]
  simp only at em ⊢
  have hm : 0 ≤ m ∧ m ≤ 9223372036854775808 := by rw [em]; split <;> omega
  refine alo_of fun h7 z7 b7 k7 => ?_
  simp only [add_mk, Nat.zero_add, Nat.add_zero, Int.toNat_zero, Int.toNat_one, Nat.mul_one, Nat.zero_mul, Nat.reduceAdd]
  rw [tmod32 hm.1, tdivp hm.1, u64e (x := m / 4294967296) (by omega) (by omega)]
  refine stc_of b7 (by simp) fun h8 z8 b8 k8 => ⟨by omega, by omega, by omega, stc_of b8 (by simp) fun h9 z9 b9 k9 => ⟨by omega, by omega, by omega, stc_of b9 (by simp) fun h10 z10 b10 k10 => ?_⟩⟩
  simp only [List.set_cons_zero, List.set_cons_succ] at b10
  refine ldB_of (by rw [cell_own b10]; rfl) (ldI_of (by rw [cell_own b10]; rfl) (ldI_of (by rw [cell_own b10]; rfl) (ldI_of (by rw [cell_own b10]; rfl) (ldI_of (by rw [cell_own b10]; rfl) (ldI_of (by rw [cell_own b10]; rfl) (ldI_of (by rw [cell_own b10]; rfl) ?_))))))
  have b2' : h10.blk h.size = some (.cells (.bool false :: us [0, 0, 0, 0, 0, 0])) := by rw [k10 _ (by omega), k9 _ (by omega), k8 _ (by omega), k7 _ (by omega)]; exact b2
  refine out7 b2' fun h' z' b' k' => hK h' _ _ _ ⟨by omega, fun c hc => by rw [k' _ (by omega), k10 _ (by omega), k9 _ (by omega), k8 _ (by omega), k7 _ (by omega), k2 _ hc]⟩ ⟨⟨rfl, fun i hi => ?_⟩, ?_⟩ (by omega)
  · match i, hi with
    | 0, _ => show 0 ≤ m % 4294967296 ∧ m % 4294967296 < 4294967296; omega
    | 1, _ => show 0 ≤ m / 4294967296 ∧ m / 4294967296 < 4294967296; omega
    | 2, _ => show (0 : Int) ≤ 0 ∧ (0 : Int) < 4294967296; omega
    | 3, _ => show (0 : Int) ≤ 0 ∧ (0 : Int) < 4294967296; omega
    | 4, _ => show (0 : Int) ≤ 0 ∧ (0 : Int) < 4294967296; omega
    | 5, _ => show (0 : Int) ≤ 0 ∧ (0 : Int) < 4294967296; omega
  · have v : vl [m % 4294967296, m / 4294967296, 0, 0, 0, 0] = m := by
      show m % 4294967296 + m / 4294967296 * 4294967296 + 0 * 18446744073709551616 + 0 * 79228162514264337593543950336 + 0 * 340282366920938463463374607431768211456 + 0 * 1461501637330902918203684832716283019655932542976 = m
      omega
    rw [v, em]
    by_cases c : x < 0
    · rw [if_pos c, decide_eq_true c, if_pos rfl]; omega
    · rw [if_neg c, decide_eq_false c, if_neg (by simp)]

theorem Plus_spec {na nb : Bool} {A B : List Int} {S T : Int} (wa : WV na A S) (wb : WV nb B T) (hb : vl A + vl B < TOP) (h : Hp) (K : Bool → Int → Int → Int → Int → Int → Int → Hp → Prop)
    (hK : ∀ h' ng x0 x1 x2 x3 x4 x5, Fr h.size h h' → WV ng [x0, x1, x2, x3, x4, x5] (S + T) → K ng x0 x1 x2 x3 x4 x5 h') :
    g_ref01_Plus na (A.getD 0 0) (A.getD 1 0) (A.getD 2 0) (A.getD 3 0) (A.getD 4 0) (A.getD 5 0) nb (B.getD 0 0) (B.getD 1 0) (B.getD 2 0) (B.getD 3 0) (B.getD 4 0) (B.getD 5 0) h K := by
  obtain ⟨la, ea⟩ := wa
  obtain ⟨lb, eb⟩ := wb
  have va := vl_nn la
  have vb := vl_nn lb
  unfold g_ref01_Plus
  refine alo_of fun h2 z2 b2 k2 => alo_of fun h4 z4 b4 k4 => alo_of fun h6 z6 b6 k6 => ?_
  have bA : h6.blk h.size = some (.cells (.bool na :: us A)) := by rw [k6 _ (by omega), k4 _ (by omega), b2, us_six la.1]
  have bB : h6.blk h2.size = some (.cells (.bool nb :: us B)) := by rw [k6 _ (by omega), b4, us_six lb.1]
  have bO : h6.blk h4.size = some (.cells (.bool false :: us [0, 0, 0, 0, 0, 0])) := b6
  have f6 : Fr h.size h h6 := ⟨by omega, fun c hc => by rw [k6 _ (by omega), k4 _ (by omega), k2 _ hc]⟩
  simp only [add_mk, Nat.zero_add, Nat.add_zero, Nat.reduceAdd]
  refine ldB_of (by rw [cell_own bA]; rfl) (ldB_of (by rw [cell_own bB]; rfl) (cnd_of (fun c => ?_) fun c => ?_))
  · rw [beq_iff_eq] at c
    refine ldB_of (by rw [cell_own bA]; rfl) (in6 la.1 bA (in6 lb.1 bB (more_spec la lb h6 _ fun h28 f28 => ⟨?_, ?_⟩)))
    · rw [cell_own ((f28.blk _ (by omega)).trans bA)]; rfl
    have z28 := f28.size
    obtain ⟨m1, m2⟩ := more_val la lb hb
    refine out7 ((f28.blk _ (by omega)).trans bO) fun h' z' b' k' => hK h' _ _ _ _ _ _ _ ⟨by omega, fun y hy => by rw [k' _ (by omega), f28.blk _ (by omega), f6.blk y hy]⟩ ⟨m1, ?_⟩
    rw [m2, ea, eb, c]
    cases nb <;> simp <;> omega
  · rw [beq_eq_false_iff_ne] at c
    refine in6 la.1 bA (in6 lb.1 bB (size_spec la lb h6 _ fun h56 r f56 hr => ?_))
    have z56 := f56.size
    have bA5 := (f56.blk _ (by omega)).trans bA
    have bB5 := (f56.blk _ (by omega)).trans bB
    refine cnd_of (fun c2 => ?_) fun c2 => ?_
    · simp only [decide_eq_true_eq] at c2
      have hle := hr.1 c2
      refine ldB_of (by rw [cell_own bA5]; rfl) (in6 la.1 bA5 (in6 lb.1 bB5 (less_spec la lb h56 _ fun h76 f76 => ⟨?_, ?_⟩)))
      · rw [cell_own ((f76.blk _ (by omega)).trans bA5)]; rfl
      have z76 := f76.size
      obtain ⟨m1, m2⟩ := less_val la lb hle
      refine out7 ((f76.blk _ (by omega)).trans ((f56.blk _ (by omega)).trans bO)) fun h' z' b' k' => hK h' _ _ _ _ _ _ _ ⟨by omega, fun y hy => by rw [k' _ (by omega), f76.blk _ (by omega), f56.blk _ (by omega), f6.blk y hy]⟩ ⟨m1, ?_⟩
      rw [m2, ea, eb]
      cases na <;> cases nb <;> simp at c ⊢ <;> omega
    · simp only [decide_eq_false_iff_not] at c2
      have hle : vl A ≤ vl B := by
        have : ¬ vl B ≤ vl A := fun q => c2 (hr.2 q)
        omega
      refine ldB_of (by rw [cell_own bB5]; rfl) (in6 lb.1 bB5 (in6 la.1 bA5 (less_spec lb la h56 _ fun h76 f76 => ⟨?_, ?_⟩)))
      · rw [cell_own ((f76.blk _ (by omega)).trans bB5)]; rfl
      have z76 := f76.size
      obtain ⟨m1, m2⟩ := less_val lb la hle
      refine out7 ((f76.blk _ (by omega)).trans ((f56.blk _ (by omega)).trans bO)) fun h' z' b' k' => hK h' _ _ _ _ _ _ _ ⟨by omega, fun y hy => by rw [k' _ (by omega), f76.blk _ (by omega), f56.blk _ (by omega), f6.blk y hy]⟩ ⟨m1, ?_⟩
      rw [m2, ea, eb]
      cases na <;> cases nb <;> simp at c ⊢ <;> omega

theorem fit_spec {ng : Bool} {A : List Int} {S : Int} (w : WV ng A S) (h : Hp) (K : Int → Int → Hp → Prop) (hK : ∀ h', Fr h.size h h' → K (sumR S).1 (sumR S).2 h') :
    g_ref01_fit ng (A.getD 0 0) (A.getD 1 0) (A.getD 2 0) (A.getD 3 0) (A.getD 4 0) (A.getD 5 0) h K := by
  obtain ⟨la, ea⟩ := w
  have A0 := la.2 0 (by omega); have A1 := la.2 1 (by omega); have A2 := la.2 2 (by omega); have A3 := la.2 3 (by omega); have A4 := la.2 4 (by omega); have A5 := la.2 5 (by omega)
  unfold g_ref01_fit
  refine alo_of fun h2 z2 b2 k2 => ?_
  have bA : h2.blk h.size = some (.cells (.bool ng :: us A)) := by rw [b2, us_six la.1]
  simp only [add_mk, Nat.zero_add]
  refine ldB_of (by rw [cell_own bA]; rfl) (in6 la.1 bA ?_)
  unfold g_ref01_Int
  refine alo_of fun h3 z3 b3 k3 => ?_
  have F3 : Fr h.size h h3 := ⟨by omega, fun c hc => by rw [k3 _ (by omega), k2 _ hc]⟩
  have hK3 := hK h3 F3
  have over : ¬ i64ok S → K 0 7 h3 := fun q => by unfold sumR at hK3; rw [if_neg q] at hK3; exact hK3
  have fits : i64ok S → K S 0 h3 := fun q => by unfold sumR at hK3; rw [if_pos q] at hK3; exact hK3
  have big : vl A ≥ 18446744073709551616 → ¬ i64ok S := fun q => by
    unfold i64ok
    rw [ea]
    split <;> omega
  simp only [add_mk, Nat.zero_add, Nat.add_zero, Int.toNat_zero, Int.toNat_one, Nat.mul_one, Nat.zero_mul, Nat.reduceAdd, Int.reduceToNat]
  have rd : ∀ {k : Nat} {v : Int} {K : Int → Prop}, [Value.bool ng, .int .u64 (A.getD 0 0), .int .u64 (A.getD 1 0), .int .u64 (A.getD 2 0), .int .u64 (A.getD 3 0), .int .u64 (A.getD 4 0), .int .u64 (A.getD 5 0)][k]? = some (.int .u64 v) → K v → ldI .u64 h3 ⟨h2.size, k, none⟩ K := fun e hk => ldI_of (by rw [cell_own b3]; exact e) hk
  have hv : vl A = A.getD 0 0 + A.getD 1 0 * 4294967296 + A.getD 2 0 * 18446744073709551616 + A.getD 3 0 * 79228162514264337593543950336 + A.getD 4 0 * 340282366920938463463374607431768211456 + A.getD 5 0 * 1461501637330902918203684832716283019655932542976 := rfl
  refine ⟨by omega, by omega, rd rfl (cnd_of (fun c => cnd_t rfl (over (big ?_))) fun c2 => ⟨by omega, by omega, rd rfl (cnd_of (fun c => cnd_t rfl (over (big ?_))) fun c3 => ⟨by omega, by omega, rd rfl (cnd_of (fun c => cnd_t rfl (over (big ?_))) fun c4 => ⟨by omega, by omega, rd rfl (cnd_of (fun c => cnd_t rfl (over (big ?_))) fun c5 => ?_)⟩)⟩)⟩)⟩
  · rw [bne_iff_ne] at c; omega
  · rw [bne_iff_ne] at c; omega
  · rw [bne_iff_ne] at c; omega
  · rw [bne_iff_ne] at c; omega
  rw [bne_eq_false_iff_eq] at c2 c3 c4 c5
  refine ⟨by omega, by omega, rd rfl ⟨by omega, by omega, rd rfl (ldB_of (by rw [cell_own b3]; rfl) ?_)⟩⟩
  have e1 : IntKind.u64.wrap (A.getD 1 0 * 4294967296) = A.getD 1 0 * 4294967296 := u64e (by omega) (by omega)
  have e2 : IntKind.u64.wrap (A.getD 1 0 * 4294967296 + A.getD 0 0) = vl A := by rw [u64e (by omega) (by omega)]; omega
  rw [e1, e2]
  have v0 := vl_nn la
  cases ng with
  | false =>
    rw [if_neg (by simp)] at ea
    refine cnd_t rfl (cnd_of (fun c => cnd_t rfl (over ?_)) fun c => cnd_f rfl ?_)
    · simp only [decide_eq_true_eq] at c; unfold i64ok; omega
    · simp only [decide_eq_false_iff_not] at c
      rw [w64, w64_eq (by omega) (by omega), ← ea]
      exact fits (by unfold i64ok; omega)
  | true =>
    rw [if_pos rfl] at ea
    refine cnd_f rfl (cnd_of (fun c => cnd_t rfl (over ?_)) fun c => cnd_of (fun c1 => cnd_f rfl ?_) fun c1 => cnd_f rfl ?_)
    · simp only [decide_eq_true_eq] at c; unfold i64ok; omega
    · rw [beq_iff_eq] at c1
      have : S = 0 := by omega
      have f := fits (by unfold i64ok; omega)
      rw [this] at f
      exact f
    · simp only [decide_eq_false_iff_not] at c
      rw [beq_eq_false_iff_ne] at c1
      have e3 : IntKind.u64.wrap (vl A - 1) = vl A - 1 := u64e (by omega) (by omega)
      have e4 : w64 (vl A - 1) = vl A - 1 := by rw [w64, w64_eq (by omega) (by omega)]
      have e5 : IntKind.i64.wrap (0 - (vl A - 1)) = 0 - (vl A - 1) := w64_eq (by omega) (by omega)
      rw [e3, e4, e5, w64, w64_eq (by omega) (by omega), show 0 - (vl A - 1) - 1 = S by omega]
      exact fits (by unfold i64ok; omega)

theorem rSum_spec {h : Hp} {s : Sl} {l : List Int} (hs : Rd h 1 s (ints l)) (hl : l.length < 2 ^ 30) (hw : ∀ x, x ∈ l → i64ok x) (K : Int → Int → Hp → Prop) (hK : ∀ h', Fr h.size h h' → K (sumR (sumI l)).1 (sumR (sumI l)).2 h') : g_ref01_Sum s h K := by
  have sn := hs.ilen
  unfold g_ref01_Sum
  refine alo_of fun h2 z2 b2 k2 => ?_
  have f2 : Fr h.size h h2 := ⟨by omega, k2⟩
  refine jn_of (fun _ g => Fr h.size h g ∧ ∃ ng A, g.blk h.size = some (.cells (.bool ng :: us A)) ∧ WV ng A (sumI l)) ?_ fun K5 hK5 => ?_
  · rintro ⟨⟩ g ⟨fg, ng, A, bg, w⟩
    simp only [add_mk, Nat.zero_add]
    refine ldB_of (by rw [cell_own bg]; rfl) (in6 w.1.1 bg (fit_spec w g _ fun h' f' => hK h' ⟨by have := f'.size; have := fg.size; omega, fun y hy => by rw [f'.blk _ (by have := fg.size; omega), fg.blk y hy]⟩))
  · refine for_of l.length (fun i (t : Int × Unit) g => t.1 = (i : Int) ∧ Fr h.size h g ∧ h.size < g.size ∧ ∃ ng A, g.blk h.size = some (.cells (.bool ng :: us A)) ∧ WV ng A (sumI (l.take i)) ∧ vl A ≤ (i : Int) * 9223372036854775808) ?_
      ⟨rfl, f2, by omega, false, [0, 0, 0, 0, 0, 0], b2, ⟨⟨rfl, by decide⟩, rfl⟩, by decide⟩
    rintro i Kr ⟨_, _⟩ g hi ⟨rfl, fg, zg, ng, A, bg, w, hb⟩ hKr
    refine cnd_of (fun c => ?_) fun c => ?_
    · simp only [decide_eq_true_eq, Int.ofNat_eq_natCast] at c
      have hil : i < l.length := by omega
      simp only [add_mk, Nat.zero_add]
      refine ldB_of (by rw [cell_own bg]; rfl) (in6 w.1.1 bg (ix_ld1 (hs.fr fg) (show (0 : Int) ≤ (i : Int) by omega) (by omega) rfl ?_))
      have ex : l.getD (Int.toNat (i : Int)) 0 = l[i] := by rw [Int.toNat_natCast, List.getD, List.getElem?_eq_getElem hil]; rfl
      rw [ex]
      have hx := hw l[i] (List.getElem_mem _)
      refine From_spec hx g _ fun h35 n2 m0 m1 f35 w2 _ => ?_
      have z35 := f35.size
      have b35 := (f35.blk _ zg).trans bg
      have b35' := b35
      rw [us_six w.1.1] at b35'
      refine ⟨by rw [cell_own b35']; rfl, by rw [cell_own b35']; rfl, by rw [cell_own b35']; rfl, by rw [cell_own b35']; rfl, by rw [cell_own b35']; rfl, by rw [cell_own b35']; rfl, by rw [cell_own b35']; rfl, ?_⟩
      have v2 : vl [m0, m1, 0, 0, 0, 0] ≤ 9223372036854775808 := by
        have e := w2.2
        have := vl_nn w2.1
        unfold i64ok at hx
        split at e <;> omega
      have nnA := vl_nn w.1
      refine Plus_spec (B := [m0, m1, 0, 0, 0, 0]) w w2 (by unfold TOP; omega) h35 _ fun h43 n3 x0 x1 x2 x3 x4 x5 f43 w3 => ?_
      have z43 := f43.size
      have b43 := (f43.blk _ (by omega)).trans b35'
      have tk : sumI (l.take (i + 1)) = sumI (l.take i) + l[i] := by
        rw [List.take_succ_eq_append_getElem hil, sumI_snoc]
      have sb : ∀ j, j ≤ l.length → -((j : Int) * 9223372036854775808) ≤ sumI (l.take j) ∧ sumI (l.take j) ≤ (j : Int) * 9223372036854775808 := fun j => by
        induction j with
        | zero => intro _; simp [sumI]
        | succ j ih =>
          intro hj
          have := ih (by omega)
          have hx := hw l[j] (List.getElem_mem _)
          unfold i64ok at hx
          rw [List.take_succ_eq_append_getElem (by omega), sumI_snoc]
          omega
      refine stc_of b43 (by simp) fun g0 z0 c0 k0 => stc_of c0 (by simp) fun g1 z1 c1 k1 => stc_of c1 (by simp) fun g2 z2' c2 k2' => stc_of c2 (by simp) fun g3 z3 c3 k3 => stc_of c3 (by simp) fun g4 z4 c4 k4 => stc_of c4 (by simp) fun g5 z5 c5 k5 => stc_of c5 (by simp) fun g6 z6 c6 k6 => ?_
      simp only [List.set_cons_zero, List.set_cons_succ] at c6
      refine hKr hil _ _ ⟨?_, ⟨by have := fg.size; omega, fun y hy => ?_⟩, by omega, n3, [x0, x1, x2, x3, x4, x5], c6, by rw [tk]; exact w3, ?_⟩
      · simp only; rw [w64, w64s (by omega)]
      · rw [k6 _ (by omega), k5 _ (by omega), k4 _ (by omega), k3 _ (by omega), k2' _ (by omega), k1 _ (by omega), k0 _ (by omega), f43.blk _ (by omega), f35.blk _ (by omega), fg.blk y hy]
      · have b := sb (i + 1) (by omega)
        rw [tk] at b
        have e := w3.2
        split at e <;> omega
    · simp only [decide_eq_false_iff_not, Int.ofNat_eq_natCast] at c
      obtain rfl : i = l.length := by omega
      rw [List.take_length] at w
      exact hK5 _ _ ⟨fg, ng, A, bg, w⟩

end Go.Hx
