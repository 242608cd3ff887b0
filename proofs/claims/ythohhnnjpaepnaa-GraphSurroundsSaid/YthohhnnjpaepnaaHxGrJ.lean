/- Sums of weights; Strength; a row of equal numbers. No condition. -/
import Derived.Test.YthohhnnjpaepnaaHxGrI
namespace Go.Hx
set_option linter.unusedSimpArgs false
set_option linter.unusedVariables false

theorem u64w (x : Int) : IntKind.u64.wrap x = x % 18446744073709551616 := by
  simp [IntKind.wrap, IntKind.signed, IntKind.bits]

def sumI (l : List Int) : Int := l.foldr (· + ·) 0
theorem sumI_snoc (l : List Int) (x : Int) : sumI (l ++ [x]) = sumI l + x := by
  induction l with
  | nil => simp [sumI]
  | cons y l ih => simp only [sumI, List.cons_append, List.foldr_cons] at ih ⊢; omega

def i64ok (x : Int) : Prop := -9223372036854775808 ≤ x ∧ x ≤ 9223372036854775807
instance (x : Int) : Decidable (i64ok x) := by unfold i64ok; exact inferInstance
/-- What a sum is answered with. -/
def sumR (S : Int) : Int × Int := if i64ok S then (S, 0) else (0, 7)

theorem sh63 : (2 : Int) ^ (min (Int.toNat 63) IntKind.i64.bits) = 9223372036854775808 := by decide

theorem cSum_spec {h : Hp} {s : Sl} {l : List Int} (hs : Rd h 1 s (ints l)) (hl : l.length < 2 ^ 30) (hw : ∀ x, x ∈ l → i64ok x) (K : Int → Int → Hp → Prop) (hK : K (sumR (sumI l)).1 (sumR (sumI l)).2 h) : g_checked_Sum s h K := by
  have sn := hs.ilen
  rw [Nat.mul_one] at sn
  unfold g_checked_Sum
  refine jn_of (fun (st : Int × Int × Unit) g => g = h ∧ i64ok st.1 ∧ (0 ≤ st.2.1 ∧ st.2.1 < 18446744073709551616) ∧ st.1 * 18446744073709551616 + st.2.1 = sumI l) ?_ fun K3 hK3 => ?_
  · rintro ⟨hi, lo, _⟩ g ⟨rfl, h1, h2, h3⟩
    simp only at h1 h2 h3
    refine ⟨by omega, ?_⟩
    rw [sh63, Int.fdiv_eq_ediv_of_nonneg _ (by omega)]
    have e : w64 lo = if lo < 9223372036854775808 then lo else lo - 18446744073709551616 := by
      rw [w64, IntKind.wrap_i64]; split <;> omega
    unfold i64ok at h1
    unfold sumR at hK
    refine cnd_of (fun c => ?_) fun c => ?_
    · simp only [bne_iff_ne, ne_eq, e] at c
      have : ¬ (-9223372036854775808 ≤ sumI l ∧ sumI l ≤ 9223372036854775807) := fun q => c (by split <;> omega)
      rw [if_neg (show ¬ i64ok (sumI l) from this)] at hK; exact hK
    · simp only [bne_eq_false_iff_eq, e] at c
      have q : -9223372036854775808 ≤ sumI l ∧ sumI l ≤ 9223372036854775807 := by split at c <;> omega
      rw [if_pos (show i64ok (sumI l) from q)] at hK
      have : w64 lo = sumI l := by rw [e]; split at c <;> split <;> omega
      rw [this]; exact hK
  · refine for_of l.length (fun k (st : Int × Int × Int × Unit) g => st.2.2.1 = (k : Int) ∧ g = h ∧ (-(k : Int) ≤ st.1 ∧ st.1 ≤ k) ∧ (0 ≤ st.2.1 ∧ st.2.1 < 18446744073709551616) ∧ st.1 * 18446744073709551616 + st.2.1 = sumI (l.take k)) ?_ ⟨rfl, rfl, by simp, by simp, by simp [sumI]⟩
    rintro k Kr ⟨hi, lo, st, _⟩ g hk ⟨rfl, rfl, h1, h2, h3⟩ hKr
    simp only at h1 h2 h3
    refine cnd_of (fun c => ?_) fun c => ?_
    · simp only [decide_eq_true_eq, Int.ofNat_eq_natCast] at c
      have hkl : k < l.length := by omega
      refine ix_ld1 hs (show (0 : Int) ≤ (k : Int) by omega) (show (k : Int) < (s.n : Int) by omega) rfl ?_
      rw [Int.toNat_natCast]
      obtain ⟨x, hx⟩ : ∃ x, x = l.getD k 0 := ⟨_, rfl⟩
      have hxw := hw x (by rw [hx]; simp [List.getD, List.getElem?_eq_getElem hkl])
      unfold i64ok at hxw
      rw [← hx, u64w]
      unfold g_math_bits_Add64
      refine ⟨h2.1, by omega, by omega, by omega, by omega, ?_⟩
      rw [sh63, Int.fdiv_eq_ediv_of_nonneg _ (by omega)]
      have tk : sumI (l.take (k + 1)) = sumI (l.take k) + x := by
        rw [List.take_succ_eq_append_getElem hkl, sumI_snoc, hx]
        simp [List.getD, List.getElem?_eq_getElem hkl]
      obtain ⟨cy, hcy⟩ : ∃ cy, cy = (lo + x % 18446744073709551616 + 0) / 18446744073709551616 := ⟨_, rfl⟩
      rw [← hcy]
      have hc01 : cy = 0 ∨ cy = 1 := by omega
      have w1 : w64 cy = cy := by rw [w64, w64_eq (by omega) (by omega)]
      have w2 : w64 (x / 9223372036854775808 + cy) = x / 9223372036854775808 + cy := by rw [w64, w64_eq (by omega) (by omega)]
      have w3 : w64 (hi + (x / 9223372036854775808 + cy)) = hi + (x / 9223372036854775808 + cy) := by rw [w64, w64_eq (by omega) (by omega)]
      rw [w1, w2, w3]
      refine hKr hkl _ _ ⟨?_, rfl, ?_, ?_, ?_⟩
      · simp only; rw [w64, w64s (by omega)]
      · simp only; omega
      · simp only; omega
      · simp only; rw [tk]; omega
    · simp only [decide_eq_false_iff_not, Int.ofNat_eq_natCast] at c
      obtain rfl : k = l.length := by omega
      rw [List.take_length] at h3
      exact hK3 _ _ ⟨rfl, by unfold i64ok; simp only; omega, h2, h3⟩

section
variable {h : Hp} {o : GOb} {n m : Nat} {M : List Int}

/-- The weights of the edges around a vertex. -/
def wtA (M : List Int) (m v : Nat) : List Int := (arH M m v).map fun j => M.getD (j / 2 * 3 + 2) 0
def strA (M : List Int) (n m : Nat) (v : Int) : Int × Int := if 0 ≤ v ∧ v < (n : Int) then sumR (sumI (wtA M m v.toNat)) else (0, 3)

theorem arH_lt {M : List Int} {m v j : Nat} (h : j ∈ arH M m v) : j < 2 * m ∧ gt (VX M m) j = v := by
  unfold arH at h
  rw [List.mem_filter, List.mem_range, beq_iff_eq] at h
  exact h

theorem gStrength_spec (d : GS h o n m M) (hw : ∀ x, x ∈ M → i64ok x) (v : Int) (K : Int → Int → Hp → Prop) (hK : ∀ h', Fr h.size h h' → K (strA M n m v).1 (strA M n m v).2 h') : g_graph_Graph_Strength (some ⟨o.a, 0, none⟩) v h K := by
  obtain ⟨nb1, nb2⟩ := d.nb
  unfold g_graph_Graph_Strength
  refine halves_spec d v _ (fun q => ?_) fun u s hu hun rs hn hb => ?_
  · refine gValid_spec d _ (cnd_f rfl (cnd_t rfl ?_))
    have := hK h (Fr.refl _ _)
    unfold strA at this
    rw [if_neg q] at this; exact this
  subst hu
  have al : (arH M m u).length ≤ 2 * m := by
    rw [arH_len]
    have := cntB_le (VX M m).length fun k => gt (VX M m) k == u
    rw [VX_len] at this; unfold szp; rw [VX_len]; exact this
  refine gValid_spec d _ (cnd_f rfl (cnd_f rfl ?_))
  refine mks_of (by simp only [Int.ofNat_eq_natCast]; omega) (Int.le_refl _) (by simp only [Int.ofNat_eq_natCast]; omega) fun h7 z7 b7 k7 => ?_
  have f7 : Fr h.size h h7 := ⟨by omega, k7⟩
  obtain ⟨Ws, hWs⟩ : ∃ Ws, Ws = wtA M m u := ⟨_, rfl⟩
  have wl : Ws.length = s.n := by rw [hWs, wtA, List.length_map, hn]
  obtain ⟨sw, hsw⟩ : ∃ sw : Sl, sw = ⟨some ⟨h.size, 0, none⟩, (Int.ofNat s.n).toNat, (Int.ofNat s.n).toNat⟩ := ⟨_, rfl⟩
  have swn : sw.n = s.n := by rw [hsw]; rfl
  have swa : sw.a = some ⟨h.size, 0, none⟩ := by rw [hsw]
  have l7 : Lst h7 1 sw (ints (List.replicate s.n 0)) h.size := by
    refine ⟨by rw [swn]; simp [ints_len], by rw [hsw]; exact Nat.le_refl _, .inr ⟨h.size, [], swa, Nat.le_refl _, by omega, ?_, by rw [hsw]; simp [ints_len]⟩⟩
    rw [b7, List.append_nil]
    have : ∀ k, zrow [Value.int .i64 0] k = ints (List.replicate k 0) := fun k => by
      induction k with
      | zero => rfl
      | succ k ih => simp only [zrow, List.replicate_succ, List.flatten_cons] at *; rw [ih]; rfl
    exact congrArg _ (congrArg _ (this s.n))
  rw [← hsw]
  refine jn_of (fun _ g => Fr h.size h g ∧ Lst g 1 sw (ints Ws) h.size) ?_ fun K10 hK10 => ?_
  · rintro ⟨⟩ g ⟨fg, lg⟩
    refine cSum_spec lg.rd (by omega) (fun x hx => ?_) _ ?_
    · rw [hWs, wtA, List.mem_map] at hx
      obtain ⟨j, hj, rfl⟩ := hx
      have hj2 := (arH_lt hj).1
      refine hw _ ?_
      have : j / 2 * 3 + 2 < M.length := by
        have := d.le.1
        rw [ints_len, d.en] at this; omega
      simp [List.getD, List.getElem?_eq_getElem this]
    · have := hK g fg
      unfold strA at this
      rw [if_pos ⟨by omega, by omega⟩, Int.toNat_natCast, ← hWs] at this
      exact this
  · refine for_of s.n (fun k (st : Int × Unit) g => st.1 = (k : Int) ∧ Fr h.size h g ∧ ∃ W : List Int, Lst g 1 sw (ints W) h.size ∧ W.length = s.n ∧ ∀ i, i < k → W.getD i 0 = Ws.getD i 0) ?_ ⟨rfl, f7, _, l7, by simp, fun i hi => by omega⟩
    rintro k Kr ⟨st, _⟩ g hk ⟨rfl, fg, W, lg, Wl, hW⟩ hKr
    refine cnd_of (fun c => ?_) fun c => ?_
    rotate_left
    · simp only [decide_eq_false_iff_not, Int.ofNat_eq_natCast] at c
      obtain rfl : k = s.n := by omega
      rw [list_getD (l := W) (l' := Ws) (by omega) fun i hi => hW i (by omega)] at lg
      exact hK10 _ _ ⟨fg, lg⟩
    simp only [decide_eq_true_eq, Int.ofNat_eq_natCast] at c
    have hks : k < s.n := by omega
    obtain ⟨j, hj⟩ : ∃ j, (arH M m u)[k]? = some j := ⟨_, List.getElem?_eq_getElem (by omega)⟩
    have hjm := arH_lt (List.mem_of_getElem? hj)
    obtain ⟨e1, e2⟩ := fl2_get (f := hE) (g := hV M) hj
    have ew : Ws.getD k 0 = M.getD (j / 2 * 3 + 2) 0 := by
      rw [hWs, wtA]; simp [List.getD, List.getElem?_map, hj]
    have zg := fg.size
    refine ix_rd (rs.fr fg) (by omega) (by omega) (by omega) fun a ha hc => ?_
    have x0 := hc 0 (by omega); have x1 := hc 1 (by omega)
    unfold flA at x0 x1
    simp only [add_add _ _ _ ha, Int.toNat_natCast, Nat.add_zero, e1, e2] at x0 x1 ⊢
    refine ldI_of x0 (ldI_of x1 (alo_of fun g2 z2 b2 k2 => ?_))
    simp only [add_mk, Nat.zero_add]
    refine stc_of b2 (by simp) fun g3 z3 b3 k3 => stc_of b3 (by simp) fun g4 z4 b4 k4 => nn_of ?_
    simp only [List.set_cons_zero, List.set_cons_succ] at b4
    have f4 : Fr g.size g g4 := ⟨by omega, fun c hc => by rw [k4 c (by omega), k3 c (by omega), k2 c hc]⟩
    have F4 : Fr h.size h g4 := ⟨by omega, fun c hc => by rw [f4.blk c (by omega), fg.blk c hc]⟩
    have d4 := d.fr F4
    simp only [add_mk, Nat.zero_add]
    refine ldS_of (by rw [d4.cell]; rfl) (ldI_of (by rw [cell_own b4]; rfl) ?_)
    show ix o.e.a o.e.n (((j / 2 : Nat)) : Int) _
    refine rd3k d4.le.rd (by rw [d4.en]; omega) (by omega) ?_
    refine ix_st1 (lg.fr f4) (by omega) (by rw [swn]; omega) rfl fun g5 z5 l5 k5 => ?_
    rw [Int.toNat_natCast] at l5
    refine hKr hks _ _ ⟨?_, ⟨by omega, fun c hc => ?_⟩, _, l5, by rw [List.length_set]; exact Wl, fun i hi => ?_⟩
    · simp only; rw [w64, w64s (by omega)]
    · rw [k5 c (fun x hx => by rw [swa] at hx; cases hx; simp only; omega), F4.blk c hc]
    · rw [getD_set]
      by_cases q : i = k
      · subst q; rw [if_pos ⟨rfl, by omega⟩, ew]
      · rw [if_neg (by omega)]; exact hW i (by omega)
end

/-! ### A row of equal numbers -/

theorem andM {n : Nat} (h : n < 4294967296) : IntKind.u64.wrap (Int.ofNat (BitVec.toNat (BitVec.ofInt IntKind.u64.bits (n : Int) &&& BitVec.ofInt IntKind.u64.bits 4294967295))) = n := by
  have : (BitVec.ofInt IntKind.u64.bits (n : Int) &&& BitVec.ofInt IntKind.u64.bits 4294967295).toNat = n := by
    show (BitVec.ofInt 64 (n : Int) &&& BitVec.ofInt 64 4294967295).toNat = n
    rw [BitVec.toNat_and]
    have e1 : (BitVec.ofInt 64 (n : Int)).toNat = n := by
      rw [BitVec.toNat_ofInt]; omega
    have e2 : (BitVec.ofInt 64 4294967295).toNat = 2 ^ 32 - 1 := by decide
    rw [e1, e2, Nat.and_two_pow_sub_one_eq_mod]
    omega
  rw [this, u64w]
  simp only [Int.ofNat_eq_natCast]; omega

theorem sh32 : (2 : Int) ^ (min (Int.toNat 32) IntKind.u64.bits) = 4294967296 := by decide

theorem mul1_spec {n : Nat} (hn : n < 4294967296) (h : Hp) (K : Int → Int → Hp → Prop) (hK : K 0 (n : Nat) h) : g_math_bits_Mul 1 (n : Int) h K := by
  unfold g_math_bits_Mul g_math_bits_Mul64
  refine ⟨by omega, by omega, by omega, by omega, by omega, ?_⟩
  have fd : Int.fdiv (n : Int) 4294967296 = 0 := by rw [Int.fdiv_eq_ediv_of_nonneg _ (by omega)]; omega
  have f1 : Int.fdiv (1 : Int) 4294967296 = 0 := by decide
  have a1 : IntKind.u64.wrap (Int.ofNat (BitVec.toNat (BitVec.ofInt IntKind.u64.bits 1 &&& BitVec.ofInt IntKind.u64.bits 4294967295))) = 1 := andM (n := 1) (by omega)
  have a0 : IntKind.u64.wrap (Int.ofNat (BitVec.toNat (BitVec.ofInt IntKind.u64.bits 0 &&& BitVec.ofInt IntKind.u64.bits 4294967295))) = 0 := andM (n := 0) (by omega)
  have wn : IntKind.u64.wrap (n : Int) = n := by rw [u64w]; omega
  have w0 : IntKind.u64.wrap 0 = 0 := by rw [u64w]; rfl
  have f0 : Int.fdiv (0 : Int) 4294967296 = 0 := by decide
  simp only [sh32, fd, f1, a1, andM hn, Int.zero_mul, Int.mul_zero, Int.one_mul, w0, wn, Int.add_zero, Int.zero_add, f0, a0]
  exact hK

end Go.Hx
