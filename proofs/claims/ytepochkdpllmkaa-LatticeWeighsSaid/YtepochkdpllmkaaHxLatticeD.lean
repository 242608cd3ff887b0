/- Complete graphs and weighted lists of edges: the two laws, over the abstract heap. No condition. -/
import Derived.Test.YtepochkdpllmkaaHxLatticeC
namespace Go.Hx

def completeR (u k : Nat) : List Int := (List.range k).flatMap fun (j : Nat) => [(u : Int), (u : Int) + 1 + (j : Int), 0]
def completeE (n m : Nat) : List Int := (List.range m).flatMap fun (u : Nat) => completeR u (n - 1 - u)

theorem completeR_len (u k : Nat) : (completeR u k).length ≤ k * 3 := flatMap_len _ _ _ fun _ => by simp
theorem completeE_len (n m : Nat) : (completeE n m).length ≤ m * (n * 3) := flatMap_len _ _ _ fun u => by
  have := completeR_len u (n - 1 - u)
  have h : (n - 1 - u) * 3 ≤ n * 3 := Nat.mul_le_mul_right _ (by omega)
  omega

theorem complete_loop (n : Int) (H : Hp) (K : Sl → Int → Hp → Prop) (h0 : 0 ≤ n) (h1 : n ≤ 4096)
    (hK : ∀ s H', Fr H.size H H' → Lst H' 3 s (ints (completeE n.toNat n.toNat)) H.size → K s 0 H') :
    (loopP (fun K4 (t5 : (Sl × Int × Unit)) (h6 : Hp) =>
          cnd (decide (t5.2.1 < n))
          (loopP (fun K7 (t8 : (Sl × Int × Unit)) (h9 : Hp) =>
              cnd (decide (t8.2.1 < n))
              (alo h9 [.int .i64 t5.2.1, .int .i64 t8.2.1, .int .i64 0] fun a10 h11 =>
                app 3 24 [.int .i64 0, .int .i64 0, .int .i64 0] ⟨t8.1.a, t8.1.n, t8.1.c⟩ ⟨(some a10), 1, 1⟩ h11 fun s12 h13 =>
                K7 (s12, (w64 (t8.2.1 + 1)), ()) h13)
              (K4 (⟨t8.1.a, t8.1.n, t8.1.c⟩, (w64 (t5.2.1 + 1)), ()) h9))
            (⟨t5.1.a, t5.1.n, t5.1.c⟩, (w64 (t5.2.1 + 1)), ()) h6)
          (K (⟨t5.1.a, t5.1.n, t5.1.c⟩ : Sl) 0 h6))
        (⟨none, 0, 0⟩, 0, ()) H) := by
  refine for_of n.toNat (fun u t H' => t.2.1 = (u : Int) ∧ Lst H' 3 t.1 (ints (completeE n.toNat u)) H.size ∧ Fr H.size H H') ?_ ⟨rfl, by simpa [completeE, ints] using Lst.nil H 3 H.size, Fr.refl _ _⟩
  rintro u K1 ⟨s, u', x⟩ H1 hu ⟨rfl, hL, fr⟩ hK1
  simp only
  refine cnd_of (fun f => ?_) fun f => ?_
  · simp only [decide_eq_true_eq] at f
    have e1 : w64 ((u : Int) + 1) = (u : Int) + 1 := w64_eq (by omega) (by omega)
    rw [e1]
    refine for_of (n.toNat - 1 - u) (fun j t H' => t.2.1 = (u : Int) + 1 + (j : Int) ∧ Lst H' 3 t.1 (ints (completeE n.toNat u ++ completeR u j)) H.size ∧ Fr H.size H H') ?_ ⟨by simp, by simpa [completeR] using hL, fr⟩
    rintro j K2 ⟨s, j', x⟩ H2 hj ⟨rfl, hL2, fr2⟩ hK2
    simp only
    refine cnd_of (fun f2 => ?_) fun f2 => ?_
    · simp only [decide_eq_true_eq] at f2
      refine alo_of fun H3 z3 b3 k3 => ?_
      have fr3 : Fr H2.size H2 H3 := ⟨by omega, k3⟩
      have hs := fr2.size
      have hsn : s.n ≤ 4096 * (4096 * 3) + 4096 * 3 := by
        have h := hL2.1
        have l1 := completeE_len n.toNat u
        have l2 := completeR_len u j
        rw [ints_len, List.length_append] at h
        simp only at h
        have l3 : u * (n.toNat * 3) ≤ 4096 * (4096 * 3) := Nat.mul_le_mul (by omega) (by omega)
        omega
      refine app_lst (x := ⟨some ⟨H2.size, 0, none⟩, 1, 1⟩) (news := ints [(u : Int), (u : Int) + 1 + j, 0]) (hL2.keep fr3.size fun a ha => k3 _ (hL2.blk_lt ha).2.1) (by omega) (by rw [seg_row (row_own b3) (by simp)]; rfl) (ints_one _) rfl
        (by simp only; omega) (by simp only; omega) ?_
      intro s' H4 hL4 _ hz fr4 _ _
      refine hK2 (by omega) _ _ ⟨?_, ?_, (fr2.trans (fr3.mono hs)).trans fr4⟩
      · show w64 ((u : Int) + 1 + j + 1) = (u : Int) + 1 + ((j + 1 : Nat) : Int)
        rw [w64, w64_eq (by omega) (by omega)]; omega
      · rw [completeR, flatMap_succ, ← List.append_assoc, ints_app]; exact hL4
    · simp only [decide_eq_false_iff_not] at f2
      obtain rfl : j = n.toNat - 1 - u := by omega
      refine hK1 (by omega) _ _ ⟨rfl, ?_, fr2⟩
      rw [completeE, flatMap_succ]; exact hL2
  · simp only [decide_eq_false_iff_not] at f
    obtain rfl : u = n.toNat := by omega
    exact hK _ _ fr hL

theorem half_bound {n : Int} (h0 : 0 ≤ n) (h1 : n ≤ 4096) : w64 (Int.tdiv (w64 (n * (w64 (n - 1)))) 2) = n * (n - 1) / 2 := by
  have e1 : w64 (n - 1) = n - 1 := w64_eq (by omega) (by omega)
  rw [e1]
  have b0 : -4096 ≤ n * (n - 1) := by
    rcases Int.lt_or_le n 1 with h | h
    · have : n = 0 := by omega
      subst this; decide
    · have := Int.mul_nonneg h0 (show 0 ≤ n - 1 by omega); omega
  have b0' : 0 ≤ n * (n - 1) := by
    rcases Int.lt_or_le n 1 with h | h
    · have : n = 0 := by omega
      subst this; decide
    · exact Int.mul_nonneg h0 (show 0 ≤ n - 1 by omega)
  have b1 : n * (n - 1) ≤ 4096 * 4096 := by
    rcases Int.lt_or_le n 1 with h | h
    · have : n = 0 := by omega
      subst this; decide
    · exact Int.mul_le_mul h1 (by omega) (by omega) (by omega)
  have e2 : w64 (n * (n - 1)) = n * (n - 1) := w64_eq (x := n * (n - 1)) (by omega) (by omega)
  rw [e2, Int.tdiv_eq_ediv_of_nonneg b0']
  exact w64_eq (by omega) (by omega)

/-- What both complete graphs are. -/
theorem both_complete (n : Int) (H : Hp) (K : Sl → Int → Hp → Prop)
    (hK : ∀ s c H', Fr H.size H H' → c = (if n < 0 ∨ n > 4096 then 2 else if n * (n - 1) / 2 > 16384 then 16 else 0) →
      Lst H' 3 s (ints (if n < 0 ∨ n > 4096 then [] else if n * (n - 1) / 2 > 16384 then [] else completeE n.toNat n.toNat)) H.size → s.n < 2 ^ 62 → K s c H') : g_lattice_Complete n H K ∧ g_ref29_Complete n H K := by
  have bad : n < 0 ∨ n > 4096 → K ⟨none, 0, 0⟩ 2 H := fun h => hK _ _ _ (Fr.refl _ _) (by rw [if_pos h]) (by rw [if_pos h]; exact Lst.nil _ _ _) (by simp)
  have mid : ¬ (n < 0 ∨ n > 4096) → n * (n - 1) / 2 > 16384 → K ⟨none, 0, 0⟩ 16 H := fun h g => hK _ _ _ (Fr.refl _ _) (by rw [if_neg h, if_pos g]) (by rw [if_neg h, if_pos g]; exact Lst.nil _ _ _) (by simp)
  have good : ∀ (h : ¬ (n < 0 ∨ n > 4096)), ¬ (n * (n - 1) / 2 > 16384) → ∀ s H', Fr H.size H H' → Lst H' 3 s (ints (completeE n.toNat n.toNat)) H.size → K s 0 H' := fun h g s H' fr hL =>
    hK _ _ _ fr (by rw [if_neg h, if_neg g]) (by rw [if_neg h, if_neg g]; exact hL) (by
      have h1 := hL.1
      have l1 := completeE_len n.toNat n.toNat
      rw [ints_len] at h1
      have l3 : n.toNat * (n.toNat * 3) ≤ 4096 * (4096 * 3) := Nat.mul_le_mul (by omega) (by omega)
      omega)
  constructor
  · unfold g_lattice_Complete
    refine cnd_of (fun f => ?_) fun f => ?_
    · exact cnd_t rfl (bad (.inl (by simpa using f)))
    · refine cnd_of (fun g => bad (.inr (by simpa using g))) fun g => ?_
      simp only [decide_eq_false_iff_not] at f g
      refine ⟨by decide, cnd_of (fun e => ?_) fun e => ?_⟩
      all_goals rw [half_bound (by omega) (by omega)] at e
      · exact mid (by omega) (by simpa using e)
      · exact complete_loop n H K (by omega) (by omega) (good (by omega) (by simpa using e))
  · unfold g_ref29_Complete
    refine cnd_of (fun f => bad (.inl (by simpa using f))) fun f => cnd_of (fun g => bad (.inr (by simpa using g))) fun g => ?_
    simp only [decide_eq_false_iff_not] at f g
    refine ⟨by decide, cnd_of (fun e => ?_) fun e => ?_⟩
    all_goals rw [half_bound (by omega) (by omega)] at e
    · exact mid (by omega) (by simpa using e)
    · exact complete_loop n H K (by omega) (by omega) (good (by omega) (by simpa using e))

theorem g_law29_LatticeCompletes_true (n : Int) (h : Hp) (K : Bool → Hp → Prop) (_ : -9223372036854775808 ≤ n ∧ n ≤ 9223372036854775807) (hK : ∀ h', K true h') : g_law29_LatticeCompletes n h K := by
  unfold g_law29_LatticeCompletes
  refine (both_complete n h _ fun s c H1 fr1 hc hL hs => (both_complete n H1 _ fun s' c' H2 fr2 hc' hL' hs' => ?_).2).1
  rw [← hc] at hc'
  refine cnd_t (by simp [hc']) (same29_spec _ _ _ _ _ _ (by rw [fr2.seg fun x hx => (hL.blk_lt hx).2.1]; exact hL.seg) hL'.seg hs ?_)
  refine cnd_t (by simp) (works29_spec _ _ fun h' _ => hK h')

/-! ### Weights -/

def weightsL (M N : List Int) (k : Nat) : List Int := (List.range k).flatMap fun i => [M.getD (i * 3 + 0) 0, M.getD (i * 3 + 1) 0, N.getD i 0]

theorem weightsL_succ (M N : List Int) (k : Nat) : weightsL M N (k + 1) = weightsL M N k ++ [M.getD (k * 3 + 0) 0, M.getD (k * 3 + 1) 0, N.getD k 0] := flatMap_succ _ _

theorem weightsL_len (M N : List Int) (k : Nat) : (weightsL M N k).length = k * 3 := by
  induction k with
  | zero => rfl
  | succ k ih => rw [weightsL, flatMap_succ, List.length_append, ← weightsL, ih]; simp; omega

theorem zrow_succ (z : List Value) (n : Nat) : zrow z (n + 1) = z ++ zrow z n := by simp [zrow, List.replicate_succ]

theorem set_mid (pre post : List Value) (x v : Value) (k : Nat) (h : k = pre.length) : (pre ++ x :: post).set k v = pre ++ v :: post := by
  subst h; simp

theorem set_mid2 (pre post : List Value) (x y v : Value) (k : Nat) (h : k = pre.length) : (pre ++ x :: y :: post).set (k + 1) v = pre ++ x :: v :: post := by
  subst h; simp

theorem set_mid3 (pre post : List Value) (x y z v : Value) (k : Nat) (h : k = pre.length) : (pre ++ x :: y :: z :: post).set (k + 2) v = pre ++ x :: y :: v :: post := by
  subst h; simp

theorem Weights_spec (l w : Sl) (M N : List Int) (H : Hp) (K : Sl → Int → Hp → Prop) (hM : Rd H 3 l (ints M)) (hN : Rd H 1 w (ints N)) (hl : l.n ≤ 500)
    (hb : l.n ≠ w.n → K ⟨none, 0, 0⟩ 2 H) (hg : l.n = w.n → ∀ s H', Fr H.size H H' → Lst H' 3 s (ints (weightsL M N l.n)) H.size → K s 0 H') : g_lattice_Weights l w H K := by
  have hm : M.length = l.n * 3 := hM.ilen
  have hn : N.length = w.n := by have := hN.ilen; omega
  unfold g_lattice_Weights
  refine cnd_of (fun c => hb (by simp at c; omega)) fun c => ?_
  simp only [bne_eq_false_iff_eq, Int.ofNat_eq_natCast] at c
  have c' : l.n = w.n := by omega
  refine mks_of (by simp) (by simp) (by simp only [Int.ofNat_eq_natCast]; omega) fun H1 z1 b1 k1 => ?_
  refine for_of l.n (fun i t H' => t.1 = (i : Int) ∧ Fr H.size H H' ∧ H.size < H'.size ∧ H'.blk H.size = some (.cells (ints (weightsL M N i) ++ zrow [.int .i64 0, .int .i64 0, .int .i64 0] (l.n - i)))) ?_
    ⟨rfl, ⟨by omega, k1⟩, by omega, by simpa [weightsL, ints] using b1⟩
  rintro i K2 ⟨i', u⟩ H2 hi ⟨rfl, fr2, sz2, b2⟩ hK2
  simp only
  refine cnd_of (fun f => ?_) fun f => ?_
  · simp only [decide_eq_true_eq, Int.ofNat_eq_natCast] at f
    have ei : Int.toNat (i : Int) = i := rfl
    have q : H2.seg l.a (l.n * 3) = some (ints M) := (hM.fr fr2).1
    refine ix_seg q (by omega) (by omega) (by omega) fun x hx hs hc => ?_
    rw [add_add _ _ _ hs, add_add _ _ _ hs, add_add _ _ _ hs]
    refine ldI_of (v := M.getD (i * 3 + 0) 0) (by rw [ei, hc _ (by omega), ints_getD (by omega)]) ?_
    refine ldI_of (v := M.getD (i * 3 + 1) 0) (by rw [ei, hc _ (by omega), ints_getD (by omega)]) ?_
    refine ldI_of (v := M.getD (i * 3 + 2) 0) (by rw [ei, hc _ (by omega), ints_getD (by omega)]) ?_
    refine alo_of fun H3 z3 b3 k3 => ?_
    simp only [add_mk]
    refine stc_of b3 (by simp) fun H4 z4 b4 k4 => stc_of b4 (by simp) fun H5 z5 b5 k5 => stc_of b5 (by simp) fun H6 z6 b6 k6 => ?_
    have fr6 : Fr H2.size H2 H6 := ⟨by omega, fun c hc => by rw [k6 c (by omega), k5 c (by omega), k4 c (by omega), k3 c hc]⟩
    have fr6' := fr2.trans (fr6.mono fr2.size)
    have qw : H6.seg w.a (w.n * 1) = some (ints N) := (hN.fr fr6').1
    refine ix_seg qw (by omega) (by omega) (by omega) fun y hy hs' hc' => ?_
    refine ldI_of (v := N.getD i 0) (by rw [ei, hc' _ (by omega), Nat.mul_one, ints_getD (by omega)]) ?_
    refine stc_of b6 (by simp) fun H7 z7 b7 k7 => ?_
    simp only [List.set_cons_zero, List.set_cons_succ, Nat.zero_add, Nat.add_zero] at b7
    refine ldI_of (by rw [cell_own b7]; rfl) (ldI_of (by rw [cell_own b7]; rfl) (ldI_of (by rw [cell_own b7]; rfl) ?_))
    refine ix_of (by omega) (by simp only [Int.ofNat_eq_natCast]; omega) ?_
    have fr7 : Fr H2.size H2 H7 := ⟨by omega, fun c hc => by rw [k7 c (by omega), fr6.blk c hc]⟩
    have b8 := (fr7.blk _ sz2).trans b2
    obtain ⟨r, hr⟩ : ∃ r, l.n - i = r + 1 := ⟨l.n - i - 1, by omega⟩
    rw [hr, zrow_succ] at b8
    have hlen : (ints (weightsL M N i)).length = i * 3 := by rw [ints_len, weightsL_len]
    simp only [add_mk, ei, Nat.zero_add, Nat.add_zero]
    refine stc_of b8 (by simp [hlen]) fun H8 z8 b8 k8 => ?_
    simp only [List.cons_append, List.nil_append] at b8
    rw [set_mid _ _ _ _ _ hlen.symm] at b8
    refine stc_of b8 (by simp [hlen]) fun H9 z9 b9 k9 => ?_
    rw [set_mid2 _ _ _ _ _ _ hlen.symm] at b9
    refine stc_of b9 (by simp [hlen]) fun H10 z10 b10 k10 => ?_
    rw [set_mid3 _ _ _ _ _ _ _ hlen.symm] at b10
    refine hK2 (by omega) _ _ ⟨?_, ?_, by omega, ?_⟩
    · show w64 ((i : Int) + 1) = ((i + 1 : Nat) : Int)
      rw [w64, w64_eq (by omega) (by omega)]; omega
    · exact ⟨by omega, fun c hc => by rw [k10 c (by omega), k9 c (by omega), k8 c (by omega), fr7.blk c (by omega), fr2.blk c hc]⟩
    · rw [b10, show l.n - (i + 1) = r by omega, weightsL_succ, ints_app]
      simp [ints]
  · simp only [decide_eq_false_iff_not, Int.ofNat_eq_natCast] at f
    obtain rfl : i = l.n := by omega
    refine hg c' _ _ fr2 ⟨?_, ?_, .inr ⟨H.size, _, rfl, Nat.le_refl _, sz2, b2, ?_⟩⟩
    · simp [ints_len, weightsL_len]
    · simp
    · simp [ints_len, weightsL_len, zrow]

theorem Weights29_spec (l w : Sl) (M N : List Int) (H : Hp) (K : Sl → Int → Hp → Prop) (hM : Rd H 3 l (ints M)) (hN : Rd H 1 w (ints N)) (hl : l.n ≤ 500)
    (hb : l.n ≠ w.n → K ⟨none, 0, 0⟩ 2 H) (hg : l.n = w.n → ∀ s H', Fr H.size H H' → Lst H' 3 s (ints (weightsL M N l.n)) H.size → K s 0 H') : g_ref29_Weights l w H K := by
  have hm : M.length = l.n * 3 := hM.ilen
  have hn : N.length = w.n := by have := hN.ilen; omega
  unfold g_ref29_Weights
  refine cnd_of (fun c => hb (by simp at c; omega)) fun c => ?_
  simp only [bne_eq_false_iff_eq, Int.ofNat_eq_natCast] at c
  have c' : l.n = w.n := by omega
  refine for_of l.n (fun i t H' => t.2.1 = (i : Int) ∧ Fr H.size H H' ∧ Lst H' 3 t.1 (ints (weightsL M N i)) H.size) ?_ ⟨rfl, Fr.refl _ _, by simpa [weightsL, ints] using Lst.nil H 3 H.size⟩
  rintro i K2 ⟨s, i', u⟩ H2 hi ⟨rfl, fr2, hL⟩ hK2
  simp only
  refine cnd_of (fun f => ?_) fun f => ?_
  · simp only [decide_eq_true_eq, Int.ofNat_eq_natCast] at f
    have ei : Int.toNat (i : Int) = i := rfl
    have q : H2.seg l.a (l.n * 3) = some (ints M) := (hM.fr fr2).1
    have qw : H2.seg w.a (w.n * 1) = some (ints N) := (hN.fr fr2).1
    refine ix_seg q (by omega) (by omega) (by omega) fun x hx hs hc => ?_
    rw [add_add _ _ _ hs]
    refine ldI_of (v := M.getD (i * 3 + 0) 0) (by rw [ei, hc _ (by omega), ints_getD (by omega)]) ?_
    refine ix_seg q (by omega) (by omega) (by omega) fun x' hx' hs' hc' => ?_
    rw [add_add _ _ _ hs']
    refine ldI_of (v := M.getD (i * 3 + 1) 0) (by rw [ei, hc' _ (by omega), ints_getD (by omega)]) ?_
    refine ix_seg qw (by omega) (by omega) (by omega) fun y hy hs' hc' => ?_
    refine ldI_of (v := N.getD i 0) (by rw [ei, hc' _ (by omega), Nat.mul_one, ints_getD (by omega)]) ?_
    refine alo_of fun H3 z3 b3 k3 => ?_
    have fr3 : Fr H2.size H2 H3 := ⟨by omega, k3⟩
    have hs := fr2.size
    have hsn : s.n = i := by have h := hL.1; rw [ints_len, weightsL_len] at h; simp only at h; omega
    refine app_lst (x := ⟨some ⟨H2.size, 0, none⟩, 1, 1⟩) (news := ints [M.getD (i * 3 + 0) 0, M.getD (i * 3 + 1) 0, N.getD i 0]) (hL.keep fr3.size fun a ha => k3 _ (hL.blk_lt ha).2.1) (by omega) (by rw [seg_row (row_own b3) (by simp)]; rfl) (ints_one _) rfl
      (by simp only; omega) (by simp only; omega) ?_
    intro s' H4 hL4 _ hz fr4 _ _
    refine hK2 (by omega) _ _ ⟨?_, (fr2.trans (fr3.mono hs)).trans fr4, ?_⟩
    · show w64 ((i : Int) + 1) = ((i + 1 : Nat) : Int)
      rw [w64, w64_eq (by omega) (by omega)]; omega
    · rw [weightsL, flatMap_succ, ints_app]; exact hL4
  · simp only [decide_eq_false_iff_not, Int.ofNat_eq_natCast] at f
    obtain rfl : i = l.n := by omega
    exact hg c' _ _ fr2 hL

theorem g_law29_LatticeWeighs_true (l w : Sl) (h : Hp) (K : Bool → Hp → Prop) {M : List Int} (hM : Rd h 3 l (ints M)) (_ : l.n ≤ 2 ^ 63 - 1) (_ : ∀ x ∈ M, -9223372036854775808 ≤ x ∧ x ≤ 9223372036854775807)
    {N : List Int} (hN : Rd h 1 w (ints N)) (_ : w.n ≤ 2 ^ 63 - 1) (_ : ∀ x ∈ N, -9223372036854775808 ≤ x ∧ x ≤ 9223372036854775807) (hK : ∀ h', K true h') : g_law29_LatticeWeighs l w h K := by
  unfold g_law29_LatticeWeighs
  refine cnd_of (fun c => works29_spec _ _ fun h' _ => hK h') fun c => cnd_of (fun d => works29_spec _ _ fun h' _ => hK h') fun d => ?_
  simp only [decide_eq_false_iff_not, Int.ofNat_eq_natCast] at c d
  refine alo_of fun H1 z1 b1 k1 => ?_
  have fr1 : Fr h.size h H1 := ⟨by omega, k1⟩
  have hM1 := hM.fr fr1
  have L1 : Lst H1 3 ⟨some ⟨h.size, 0, none⟩, 0, 0⟩ [] h.size := ⟨by simp, Nat.le_refl _, .inr ⟨h.size, [], rfl, Nat.le_refl _, by omega, b1, rfl⟩⟩
  refine app_lst L1 fr1.size hM1.1 (ints_one _) rfl (by simp only; omega) (by simp only; omega) fun s7 H2 hL2 hn2 z2 fr2 o2 a2 => ?_
  have fr2' := fr1.trans fr2
  refine alo_of fun H3 z3 b3 k3 => ?_
  have fr3 : Fr H2.size H2 H3 := ⟨by omega, k3⟩
  have fr3' := fr2'.trans (fr3.mono fr2'.size)
  have hM3 := hM.fr fr3'
  have hN3 := hN.fr fr3'
  have hL3 := hL2.fr fr3
  have L3 : Lst H3 1 ⟨some ⟨H2.size, 0, none⟩, 0, 0⟩ [] H2.size := ⟨by simp, Nat.le_refl _, .inr ⟨H2.size, [], rfl, Nat.le_refl _, by omega, b3, rfl⟩⟩
  refine app_lst L3 fr3.size hN3.1 (ints_one _) rfl (by simp only; omega) (by simp only; omega) fun s11 H4 hL4 hn4 z4 fr4 o4 a4 => ?_
  have fr4' := fr3'.trans (fr4.mono fr2'.size)
  have hM4 := hM.fr fr4'
  have hN4 := hN.fr fr4'
  have hL2' : Lst H4 3 s7 (ints M) h.size := (hL2.keep (by omega) fun a ha => by rw [fr4.blk _ (hL2.blk_lt ha).2.1, k3 _ (hL2.blk_lt ha).2.1])
  have hR7 : Rd H4 3 s7 (ints M) := hL2'.rd
  have hR11 : Rd H4 1 s11 (ints N) := hL4.rd
  have n7 : s7.n = l.n := by simp only at hn2; omega
  have n11 : s11.n = w.n := by simp only at hn4; omega
  have tail : ∀ s13 s16 (V : List Int) (H6 : Hp) (c14 c17 : Int), Fr H4.size H4 H6 → c14 = c17 → Rd H6 3 s13 (ints V) → Rd H6 3 s16 (ints V) → s13.n < 2 ^ 62 →
      (jn (fun (t19 : Unit) (h20 : Hp) =>
        cnd (c14 == c17)
        (g_law29_same s13 s16 h20 fun r22 h23 =>
          cnd r22
          (g_law29_same s7 l h23 fun r24 h25 =>
            cnd r24
            (g_law29_works h25 fun r26 h27 =>
              K r26 h27)
            (K false h25))
          (K false h23))
        (K false h20))
      (fun K21 =>
        loopP (fun K28 (t29 : (Int × Unit)) (h30 : Hp) =>
          cnd (decide (t29.1 < (Int.ofNat w.n)))
          (ix s11.a s11.n t29.1 fun a31 =>
            ldI .i64 h30 (a31.add (Int.toNat t29.1 * 1)) fun n32 =>
            ix w.a w.n t29.1 fun a33 =>
            ldI .i64 h30 (a33.add (Int.toNat t29.1 * 1)) fun n34 =>
            cnd (n32 != n34)
            (K false h30)
            (K28 ((w64 (t29.1 + 1)), ()) h30))
          (K21 (()) h30))
        (0, ()) H6)) := by
    intro s13 s16 V H6 c14 c17 fr6 he r13 r16 hs
    unfold jn
    have r11 := hR11.fr fr6
    have rw6 := hN4.fr fr6
    refine for_of w.n (fun i t H' => t.1 = (i : Int) ∧ H' = H6) ?_ ⟨rfl, rfl⟩
    rintro i K2 ⟨i', u⟩ H7 hi ⟨rfl, rfl⟩ hK2
    simp only
    refine cnd_of (fun f => ?_) fun f => ?_
    · simp only [decide_eq_true_eq, Int.ofNat_eq_natCast] at f
      refine ix_rd r11 (by omega) (by omega) (by omega) fun x _ hx => ldI_of (hx 0 (by omega)) ?_
      refine ix_rd rw6 (by omega) (by omega) (by omega) fun y _ hy => ldI_of (hy 0 (by omega)) ?_
      refine cnd_f (by simp) (hK2 (by omega) _ _ ⟨?_, rfl⟩)
      show w64 ((i : Int) + 1) = ((i + 1 : Nat) : Int)
      rw [w64, w64_eq (by omega) (by omega)]; omega
    · refine cnd_t (by simp [he]) (same29_spec _ _ _ _ _ _ r13.1 r16.1 hs (cnd_t (by simp) ?_))
      refine same29_spec _ _ _ _ _ _ (hR7.fr fr6).1 (hM4.fr fr6).1 (by omega) (cnd_t (by simp) ?_)
      exact works29_spec _ _ fun h' _ => hK h'
  refine Weights_spec _ _ _ _ _ _ hR7 hR11 (by omega) (fun ne => ?_) fun eq s13 H5 fr5 hL5 => ?_
  · refine Weights29_spec _ _ _ _ _ _ hM4 hN4 (by omega) (fun _ => ?_) (fun e => by omega)
    exact tail _ _ [] _ _ _ (Fr.refl _ _) rfl (Lst.nil _ _ 0).rd (Lst.nil _ _ 0).rd (by simp)
  · refine Weights29_spec _ _ _ _ _ _ (hM4.fr fr5) (hN4.fr fr5) (by omega) (fun ne => by omega) (fun e s16 H6 fr6 hL6 => ?_)
    refine tail _ _ _ _ _ _ (fr5.trans (fr6.mono fr5.size)) rfl (hL5.fr fr6).rd (by rw [n7]; exact hL6.rd) ?_
    have h1 := hL5.1
    rw [ints_len, weightsL_len] at h1
    omega

end Go.Hx
