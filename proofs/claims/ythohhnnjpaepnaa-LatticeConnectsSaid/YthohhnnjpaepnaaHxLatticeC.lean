/- Triangular grids, trees, equality of lists of edges, and the chapter's example. No condition. -/
import Derived.Test.YthohhnnjpaepnaaHxLatticeB
namespace Go.Hx
set_option linter.unusedSimpArgs false
set_option linter.unusedVariables false

theorem Triangular_spec (w h : Int) (wx wy : Bool) (H : Hp) (K : Int → Sl → Int → Hp → Prop)
    (hb : ¬ goodG w h → ∀ H', Fr H.size H H' → K 0 ⟨none, 0, 0⟩ 2 H')
    (hg : goodG w h → ∀ s H', Fr H.size H H' → Lst H' 3 s (ints (gridL w h wx wy [1, 0, 0, 1, 1, 1] 3)) H.size → K (w * h) s 0 H') : g_lattice_Triangular w h wx wy H K := by
  unfold g_lattice_Triangular
  refine alo_of fun H1 z1 b1 k1 => ?_
  have fr1 : Fr H.size H H1 := ⟨by omega, k1⟩
  refine grid_spec w h wx wy ⟨some ⟨H.size, 0, none⟩, 3, 3⟩ [1, 0, 0, 1, 1, 1] H1 _ (by rw [seg_row (row_own b1) (by simp)]; rfl) (by simp) (by simp) (by simp; omega) (fun bad H' fr => ?_) (fun good s H' fr hL => ?_)
  · exact hb bad _ (fr1.trans (fr.mono fr1.size))
  · exact hg good _ _ (fr1.trans (fr.mono fr1.size)) (hL.le fr1.size)

/-- How many vertices, from how many so far and in the last level. -/
def treeN (c : Int) : Nat → Int → Int → Option Int
  | 0, n, _ => some n
  | d + 1, n, l => if c > (4096 - n) / l then none else treeN c d (n + l * c) (l * c)

def treeE (c : Int) (n : Nat) : List Int := (List.range n).flatMap fun (k : Nat) => [((k : Int)) / c, (k : Int) + 1, 0]

theorem Tree_spec (c d : Int) (H : Hp) (K : Int → Sl → Int → Hp → Prop) (hd : d ≤ 9223372036854775807)
    (hb : (c < 1 ∨ d < 0 ∨ treeN c d.toNat 1 1 = none) → K 0 ⟨none, 0, 0⟩ 2 H)
    (hg : 1 ≤ c → 0 ≤ d → ∀ n, treeN c d.toNat 1 1 = some n → 1 ≤ n → n ≤ 4096 → ∀ s H', Fr H.size H H' → Lst H' 3 s (ints (treeE c (n.toNat - 1))) H.size → K n s 0 H') : g_lattice_Tree c d H K := by
  unfold g_lattice_Tree
  refine cnd_of (fun b => hb (.inl (by simpa using b))) fun b => cnd_of (fun e => hb (.inr (.inl (by simpa using e)))) fun e => ?_
  simp only [decide_eq_false_iff_not] at b e
  refine loop_of (fun m t Hc => Hc = H ∧ t.1 = (m : Int) ∧ t.2.2.1 = ⟨none, 0, 0⟩ ∧ treeN c d.toNat 1 1 = treeN c m t.2.1 t.2.2.2.1 ∧ 1 ≤ t.2.2.2.1 ∧ t.2.2.2.1 ≤ 4096 ∧ 1 ≤ t.2.1 ∧ t.2.1 ≤ 4096 ∧ m ≤ 9223372036854775807) ?_ (n := d.toNat)
    ⟨rfl, by simp; omega, rfl, rfl, by simp, by simp, by simp, by simp, by omega⟩
  rintro m K1 ⟨d', n, s, l, u⟩ Hc ⟨rfl, rfl, rfl, ht, l1, l2, n1, n2, hm⟩ hK
  simp only at ht l1 l2 n1 n2
  simp only
  refine cnd_of (fun f => ?_) fun f => ?_
  · simp only [decide_eq_true_eq] at f
    obtain ⟨m, rfl⟩ : ∃ k, m = k + 1 := ⟨m - 1, by omega⟩
    have e1 : Int.tdiv (w64 (4096 - n)) l = (4096 - n) / l := by
      rw [w64, w64_eq (by omega) (by omega)]
      exact Int.tdiv_eq_ediv_of_nonneg (by omega)
    have q0 : 0 ≤ (4096 - n) / l := Int.ediv_nonneg (by omega) (by omega)
    have q1 : (4096 - n) / l ≤ 4096 - n := Int.ediv_le_self _ (by omega)
    refine ⟨by omega, cnd_of (fun f2 => ?_) fun f2 => ?_⟩
    all_goals simp only [decide_eq_true_eq, decide_eq_false_iff_not] at f2
    all_goals rw [e1, w64, w64_eq (by omega) (by omega)] at f2
    · exact hb (.inr (.inr (by rw [ht, treeN, if_pos f2])))
    · have f3 : c ≤ (4096 - n) / l := by omega
      have f4 := (Int.le_ediv_iff_mul_le (by omega)).1 f3
      have f5 : 0 ≤ l * c := Int.mul_nonneg (by omega) (by omega)
      have f6 : l * c ≤ 4096 - n := by rw [Int.mul_comm]; exact f4
      have f7 : 1 * 1 ≤ l * c := Int.mul_le_mul l1 (by omega) (by omega) (by omega)
      have g1 : w64 (l * c) = l * c := w64_eq (x := l * c) (by omega) (by omega)
      rw [g1]
      have g2 : w64 (n + l * c) = n + l * c := w64_eq (x := n + l * c) (by omega) (by omega)
      rw [g2]
      refine hK m rfl _ _ ⟨rfl, ?_, rfl, ?_, by simp only; omega, by simp only; omega, by simp only; omega, by simp only; omega, by omega⟩
      · show w64 (((m + 1 : Nat) : Int) - 1) = (m : Int)
        rw [w64, w64_eq (by omega) (by omega)]; omega
      · rw [ht, treeN, if_neg f2]
  · simp only [decide_eq_false_iff_not] at f
    obtain rfl : m = 0 := by omega
    have hn : treeN c d.toNat 1 1 = some n := ht
    refine for_of (n.toNat - 1) (fun i t H' => t.2.1 = (i : Int) + 1 ∧ Lst H' 3 t.1 (ints (treeE c i)) Hc.size ∧ Fr Hc.size Hc H') ?_ ⟨rfl, by simpa [treeE, ints] using Lst.nil Hc 3 Hc.size, Fr.refl _ _⟩
    rintro i K2 ⟨s, i', u2⟩ H' hi ⟨rfl, hL, fr⟩ hK2
    simp only
    refine cnd_of (fun f => ?_) fun f => ?_
    · simp only [decide_eq_true_eq] at f
      refine ⟨by omega, alo_of fun H2 z2 b2 k2 => ?_⟩
      have e2 : w64 (Int.tdiv (w64 ((i : Int) + 1 - 1)) c) = (i : Int) / c := by
        have h0 : 0 ≤ (i : Int) / c := Int.ediv_nonneg (by omega) (by omega)
        have h1 : (i : Int) / c ≤ i := Int.ediv_le_self _ (by omega)
        have e : w64 ((i : Int) + 1 - 1) = i := by rw [w64, w64_eq (by omega) (by omega)]; omega
        rw [e, Int.tdiv_eq_ediv_of_nonneg (by omega)]
        exact w64_eq (by omega) (by omega)
      rw [e2] at b2
      have fr2 : Fr H'.size H' H2 := ⟨by omega, k2⟩
      have hs := fr.size
      have hlen : (treeE c i).length ≤ i * 3 := flatMap_len _ _ _ (fun _ => by simp)
      have hsn : s.n ≤ 4096 * 3 := by have := hL.1; rw [ints_len] at this; simp only at this; omega
      refine app_lst (x := ⟨some ⟨H'.size, 0, none⟩, 1, 1⟩) (news := ints [(i : Int) / c, (i : Int) + 1, 0]) (hL.keep fr2.size fun a ha => k2 _ (hL.blk_lt ha).2.1) (by omega) (by rw [seg_row (row_own b2) (by simp)]; rfl) (ints_one _) rfl
        (by simp only; omega) (by simp only; omega) ?_
      intro s' H3 hL3 _ hz fr3 _ _
      refine hK2 (by omega) _ _ ⟨?_, ?_, (fr.trans (fr2.mono hs)).trans fr3⟩
      · show w64 ((i : Int) + 1 + 1) = ((i + 1 : Nat) : Int) + 1
        rw [w64, w64_eq (by omega) (by omega)]; omega
      · rw [treeE, flatMap_succ, ints_app]; exact hL3
    · simp only [decide_eq_false_iff_not] at f
      obtain rfl : i = n.toNat - 1 := by omega
      exact hg (by omega) (by omega) n hn n1 n2 _ _ fr hL

theorem take_step {M N : List Int} {k : Nat} (hm : k < M.length) (hn : k < N.length) (ht : M.take k = N.take k) (he : M.getD k 0 = N.getD k 0) : M.take (k + 1) = N.take (k + 1) := by
  rw [List.take_add_one, List.take_add_one, ht]
  simp only [List.getD, List.getElem?_eq_getElem hm, List.getElem?_eq_getElem hn, Option.getD_some] at he
  rw [List.getElem?_eq_getElem hm, List.getElem?_eq_getElem hn, he]

theorem same29_spec (a b : Sl) (M N : List Int) (H : Hp) (K : Bool → Hp → Prop) (hM : H.seg a.a (a.n * 3) = some (ints M)) (hN : H.seg b.a (b.n * 3) = some (ints N)) (hl : a.n < 2 ^ 62)
    (hK : K (decide (M = N)) H) : g_law29_same a b H K := by
  have hm : M.length = a.n * 3 := by have := seg_len hM; rwa [ints_len] at this
  have hn : N.length = b.n * 3 := by have := seg_len hN; rwa [ints_len] at this
  have no : M ≠ N → K false H := fun h => by rwa [decide_eq_false h] at hK
  unfold g_law29_same
  refine cnd_of (fun c => ?_) fun c => ?_
  · simp at c
    exact no fun h => by rw [h] at hm; omega
  · simp at c
    refine for_of a.n (fun i t Hc => t.1 = (i : Int) ∧ Hc = H ∧ M.take (i * 3) = N.take (i * 3)) ?_ ⟨rfl, rfl, by simp⟩
    rintro i K2 ⟨i', u⟩ Hc hi ⟨rfl, rfl, ht⟩ hK2
    simp only
    refine cnd_of (fun f => ?_) fun f => ?_
    · simp only [decide_eq_true_eq, Int.ofNat_eq_natCast] at f
      have g : ∀ (j : Nat), j < 3 → i * 3 + j < M.length ∧ i * 3 + j < N.length := fun j hj => by omega
      refine ix_seg hM (by omega) (by omega) (by omega) fun x hx hs hc => ?_
      rw [add_add _ _ _ hs, add_add _ _ _ hs, add_add _ _ _ hs]
      refine ldI_of (v := M.getD (i * 3 + 0) 0) (by rw [show Int.toNat (i : Int) = i from rfl, hc _ (by omega), ints_getD (g 0 (by omega)).1]) ?_
      refine ldI_of (v := M.getD (i * 3 + 1) 0) (by rw [show Int.toNat (i : Int) = i from rfl, hc _ (by omega), ints_getD (g 1 (by omega)).1]) ?_
      refine ldI_of (v := M.getD (i * 3 + 2) 0) (by rw [show Int.toNat (i : Int) = i from rfl, hc _ (by omega), ints_getD (g 2 (by omega)).1]) ?_
      refine ix_seg hN (by omega) (by omega) (by omega) fun y hy hs hc => ?_
      rw [add_add _ _ _ hs, add_add _ _ _ hs, add_add _ _ _ hs]
      refine ldI_of (v := N.getD (i * 3 + 0) 0) (by rw [show Int.toNat (i : Int) = i from rfl, hc _ (by omega), ints_getD (g 0 (by omega)).2]) ?_
      refine ldI_of (v := N.getD (i * 3 + 1) 0) (by rw [show Int.toNat (i : Int) = i from rfl, hc _ (by omega), ints_getD (g 1 (by omega)).2]) ?_
      refine ldI_of (v := N.getD (i * 3 + 2) 0) (by rw [show Int.toNat (i : Int) = i from rfl, hc _ (by omega), ints_getD (g 2 (by omega)).2]) ?_
      refine cnd_of (fun e => ?_) fun e => ?_
      · refine no fun h => ?_
        subst h
        simp at e
      · simp only [Bool.not_eq_false', Bool.and_eq_true, beq_iff_eq] at e
        refine hK2 (by omega) _ _ ⟨?_, rfl, ?_⟩
        · rw [w64, w64_eq (by omega) (by omega)]; rfl
        · have t1 := take_step (g 0 (by omega)).1 (g 0 (by omega)).2 ht e.1
          have t2 := take_step (g 1 (by omega)).1 (g 1 (by omega)).2 t1 e.2.1
          have t3 := take_step (g 2 (by omega)).1 (g 2 (by omega)).2 t2 e.2.2
          rw [Nat.add_mul]; exact t3
    · simp only [decide_eq_false_iff_not, Int.ofNat_eq_natCast] at f
      have : i = a.n := by omega
      subst this
      rw [← hm, List.take_length, hm, show a.n * 3 = b.n * 3 by omega, ← hn, List.take_length] at ht
      rwa [decide_eq_true ht] at hK

theorem Fr.seg {B : Nat} {h h' : Hp} (fr : Fr B h h') {a : Option Addr} {m : Nat} (hb : ∀ x, a = some x → x.block < B) : h'.seg a m = h.seg a m := seg_blk fun x hx => fr.blk _ (hb x hx)

theorem works29_spec (H : Hp) (K : Bool → Hp → Prop) (hK : ∀ H', Fr H.size H H' → K true H') : g_law29_works H K := by
  unfold g_law29_works
  refine Triangular_spec _ _ _ _ _ _ (fun bad => absurd ⟨by decide, by decide, by decide⟩ bad) fun _ s1 H1 fr1 hL1 => ?_
  have e1 : gridL 2 2 true true [1, 0, 0, 1, 1, 1] 3 = [0, 1, 0, 0, 2, 0, 0, 3, 0, 1, 3, 0, 2, 3, 0] := by decide
  rw [e1] at hL1
  refine Tree_spec 2 2 _ _ (by decide) (fun bad => absurd bad (by decide)) fun _ _ n hn _ _ s2 H2 fr2 hL2 => ?_
  have hn7 : n = 7 := by
    have : treeN 2 (Int.toNat 2) 1 1 = some 7 := by decide
    rw [this] at hn; cases hn; rfl
  subst hn7
  have e2 : treeE 2 (Int.toNat 7 - 1) = [0, 1, 0, 0, 2, 0, 1, 3, 0, 1, 4, 0, 2, 5, 0, 2, 6, 0] := by decide
  rw [e2] at hL2
  refine At_spec _ _ _ _ _ _ ?_
  have e3 : atV 3 2 2 1 = (5, 0) := by decide
  rw [e3]
  refine cnd_t (by rfl) (cnd_t (by rfl) (alo_of fun H3 z3 b3 k3 => ?_))
  have fr3 : Fr H2.size H2 H3 := ⟨by omega, k3⟩
  have hL1' : Lst H2 3 s1 _ H.size := hL1.keep fr2.size fun a ha => fr2.blk _ (hL1.blk_lt ha).2.1
  have n1 : s1.n = 5 := by have := hL1.1; simp [ints] at this; omega
  have n2 : s2.n = 6 := by have := hL2.1; simp [ints] at this; omega
  refine same29_spec _ _ _ [0, 1, 0, 0, 2, 0, 0, 3, 0, 1, 3, 0, 2, 3, 0] _ _ (by rw [fr3.seg fun x hx => (hL1'.blk_lt hx).2.1]; exact hL1'.seg) (by rw [seg_row (row_own b3) (by simp)]; rfl) (by omega) ?_
  refine cnd_t (by decide) (cnd_t (by rfl) (cnd_t (by rfl) (alo_of fun H4 z4 b4 k4 => ?_)))
  have fr4 : Fr H3.size H3 H4 := ⟨by omega, k4⟩
  refine same29_spec _ _ _ [0, 1, 0, 0, 2, 0, 1, 3, 0, 1, 4, 0, 2, 5, 0, 2, 6, 0] _ _ (by rw [fr4.seg fun x hx => by have := (hL2.blk_lt hx).2.1; omega, fr3.seg fun x hx => (hL2.blk_lt hx).2.1]; exact hL2.seg) (by rw [seg_row (row_own b4) (by simp)]; rfl) (by omega) ?_
  refine cnd_t (by decide) (cnd_t (by rfl) ?_)
  have s1 := fr1.size
  have s2 := fr2.size
  exact hK _ (((fr1.trans (fr2.mono s1)).trans (fr3.mono (by omega))).trans (fr4.mono (by omega)))

end Go.Hx
