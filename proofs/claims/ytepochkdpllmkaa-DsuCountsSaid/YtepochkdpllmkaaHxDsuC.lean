/- The chapter's example, united sets, and the paths: the law, over the abstract heap. No condition. -/
import Derived.Test.YtepochkdpllmkaaHxDsuB
namespace Go.Hx

theorem works08_spec (H : Hp) (K : Bool → Hp → Prop) (hK : ∀ H', Fr H.size H H' → K true H') : g_law08_works H K := by
  unfold g_law08_works
  refine New_spec 5 _ _ (fun bad => absurd bad (by decide)) fun _ _ o h1 d1 f1 e1 e2 => cnd_f rfl (cnd_f rfl ?_)
  have hi1 := f1.size
  have up : ∀ {h' h'' : Hp}, Fr H.size H h' → FrI o.lo o.hi h' h'' → Fr H.size H h'' := fun f g => f.trans (g.fr (by omega) f.size)
  refine Union_spec d1 3 1 _ fun h2 d2 f2 => ?_
  rw [show unionV (idL (Int.toNat 5)) 3 1 = (true, 0, [0, 1, 2, 1, 4]) by decide] at d2 ⊢
  refine Union_spec d2 1 3 _ fun h3 d3 f3 => ?_
  rw [show unionV [0, 1, 2, 1, 4] 1 3 = (false, 0, [0, 1, 2, 1, 4]) by decide] at d3 ⊢
  refine Least_spec d3 3 _ fun h4 d4 f4 _ => ?_
  rw [show leastV [0, 1, 2, 1, 4] 3 = (1, 0) by decide]
  refine cnd_t rfl (cnd_t rfl (cnd_t rfl (cnd_t rfl (cnd_t rfl (cnd_t rfl (Count_spec d4 _ (cnd_t (by decide) (Size_spec d4 1 _ fun h5 d5 f5 _ => ?_))))))))
  rw [show (sizeV [0, 1, 2, 1, 4] 1 == 2) = true by decide]
  exact hK _ (up (up (up (up f1 f2) f3) f4) f5)

/-- The labels behind the first k unions of a list of pairs. -/
def unitedL (n : Nat) (M : List Int) : Nat → List Nat
  | 0 => idL n
  | k + 1 => (unionV (unitedL n M k) (M.getD (k * 2 + 0) 0) (M.getD (k * 2 + 1) 0)).2.2

theorem unionV_len (L : List Nat) (a b : Int) : (unionV L a b).2.2.length = L.length := by
  unfold unionV
  split
  · split
    · rfl
    · exact mergeL_len _ _ _
  · rfl

theorem unitedL_len (n : Nat) (M : List Int) (k : Nat) : (unitedL n M k).length = n := by
  induction k with
  | zero => simp [unitedL, idL]
  | succ k ih => rw [unitedL, unionV_len, ih]

theorem unionV_inv {L : List Nat} (d : LInv L) (a b : Int) : LInv (unionV L a b).2.2 := by
  unfold unionV
  split
  · rename_i h
    split
    · exact d
    · have h1 := d.le a.toNat (by omega)
      have h2 := d.le b.toNat (by omega)
      exact d.merge (by omega) (by omega) (d.idem _ (by omega)) (d.idem _ (by omega))
  · exact d

theorem unitedL_inv (n : Nat) (M : List Int) (k : Nat) : LInv (unitedL n M k) := by
  induction k with
  | zero => exact idL_inv n
  | succ k ih => exact unionV_inv ih _ _

theorem united_spec (n : Int) (l : Sl) (M : List Int) (h : Hp) (K : Option Addr → Hp → Prop) (hM : Rd h 2 l (ints M)) (hl : l.n < 2 ^ 40) (hb : n < 0 ∨ n > 65536 → K none h)
    (hg : 0 ≤ n → n ≤ 65536 → ∀ o h', DS h' o (unitedL n.toNat M l.n) → Fr h.size h h' → o.lo = h.size → K (some ⟨o.a, 0, none⟩) h') : g_law08_united n l h K := by
  unfold g_law08_united
  refine New_spec n _ _ (fun bad => cnd_t rfl (hb bad)) fun n0 n1 o h1 d1 f1 e1 e2 => cnd_f rfl ?_
  refine for_of l.n (fun i t H => t.1 = (i : Int) ∧ DS H o (unitedL n.toNat M i) ∧ Fr h.size h H) ?_ ⟨rfl, d1, f1⟩
  rintro i K1 ⟨t, u⟩ H hi ⟨rfl, d, f⟩ hK1
  simp only
  refine cnd_of (fun c => ?_) fun c => ?_
  · simp only [decide_eq_true_eq, Int.ofNat_eq_natCast] at c
    have r := hM.fr f
    refine ix_rd r (by omega) (by omega) (by omega) fun x hx hc => ⟨by omega, by omega, ?_⟩
    rw [add_add _ _ _ hx]
    refine ldI_of (hc 0 (by omega)) (ix_rd r (by omega) (by omega) (by omega) fun y hy hc' => ⟨by omega, by omega, ?_⟩)
    rw [add_add _ _ _ hy]
    refine ldI_of (hc' 1 (by omega)) (Union_spec d _ _ _ fun h3 d3 f3 => ?_)
    refine hK1 (by omega) _ _ ⟨?_, d3, f.trans (f3.fr (by omega) f.size)⟩
    show w64 ((i : Int) + 1) = ((i + 1 : Nat) : Int)
    rw [w64, w64_eq (by omega) (by omega)]; omega
  · simp only [decide_eq_false_iff_not, Int.ofNat_eq_natCast] at c
    obtain rfl : i = l.n := by omega
    exact hg n0 n1 o H d f e1

/-! ### Spreading -/

/-- Pair k names two elements. -/
def okP (n : Nat) (M : List Int) (k : Nat) : Prop := 0 ≤ M.getD (k * 2 + 0) 0 ∧ M.getD (k * 2 + 0) 0 < n ∧ 0 ≤ M.getD (k * 2 + 1) 0 ∧ M.getD (k * 2 + 1) 0 < n
abbrev pA (M : List Int) (k : Nat) : Nat := (M.getD (k * 2 + 0) 0).toNat
abbrev pB (M : List Int) (k : Nat) : Nat := (M.getD (k * 2 + 1) 0).toNat

theorem merge_eq_iff {L : List Nat} {x y i j : Nat} (hi : i < L.length) (hj : j < L.length) : gt (mergeL L x y) i = gt (mergeL L x y) j ↔
    gt L i = gt L j ∨ (gt L i = x ∧ gt L j = y) ∨ (gt L i = y ∧ gt L j = x) := by
  rw [mergeL_gt _ _ _ hi, mergeL_gt _ _ _ hj]
  split <;> split <;> omega

theorem united_step {n : Nat} {M : List Int} {k i j : Nat} (hi : i < n) (hj : j < n) :
    gt (unitedL n M (k + 1)) i = gt (unitedL n M (k + 1)) j ↔ (gt (unitedL n M k) i = gt (unitedL n M k) j ∨
      (okP n M k ∧ ((gt (unitedL n M k) i = gt (unitedL n M k) (pA M k) ∧ gt (unitedL n M k) j = gt (unitedL n M k) (pB M k)) ∨
        (gt (unitedL n M k) i = gt (unitedL n M k) (pB M k) ∧ gt (unitedL n M k) j = gt (unitedL n M k) (pA M k))))) := by
  have hl := unitedL_len n M k
  rw [unitedL, unionV]
  unfold okP
  split
  · rename_i g
    rw [hl] at g
    split
    · rename_i e
      simp only
      constructor
      · exact .inl
      · rintro (h | ⟨-, ⟨h1, h2⟩ | ⟨h1, h2⟩⟩)
        · exact h
        · rw [h1, h2]; exact e
        · rw [h1, h2]; exact e.symm
    · simp only
      rw [merge_eq_iff (by omega) (by omega)]
      constructor
      · rintro (h | h)
        · exact .inl h
        · exact .inr ⟨g, h⟩
      · rintro (h | h)
        · exact .inl h
        · exact .inr h.2
  · rename_i g
    rw [hl] at g
    simp only
    constructor
    · exact .inl
    · rintro (h | ⟨h, -⟩)
      · exact h
      · exact absurd h g

theorem united_mono {n : Nat} {M : List Int} {k m i j : Nat} (hi : i < n) (hj : j < n) (hkm : k ≤ m) (h : gt (unitedL n M k) i = gt (unitedL n M k) j) : gt (unitedL n M m) i = gt (unitedL n M m) j := by
  induction m with
  | zero => obtain rfl : k = 0 := by omega
            exact h
  | succ m ih =>
    by_cases hk : k = m + 1
    · subst hk; exact h
    · exact (united_step hi hj).2 (.inl (ih (by omega)))

theorem united_pair {n : Nat} {M : List Int} {k m : Nat} (hk : k < m) (ho : okP n M k) : gt (unitedL n M m) (pA M k) = gt (unitedL n M m) (pB M k) := by
  have h1 : pA M k < n := by have := ho; unfold okP at this; simp only [pA]; omega
  have h2 : pB M k < n := by have := ho; unfold okP at this; simp only [pB]; omega
  exact united_mono h1 h2 (show k + 1 ≤ m by omega) ((united_step h1 h2).2 (.inr ⟨ho, .inl ⟨rfl, rfl⟩⟩))

/-- A property that pairs do not tell apart is a property of sets. -/
theorem united_closed {n : Nat} {M : List Int} (S : Nat → Prop) {m : Nat} (hc : ∀ k, k < m → okP n M k → (S (pA M k) ↔ S (pB M k))) {i j : Nat} (hi : i < n) (hj : j < n)
    (h : gt (unitedL n M m) i = gt (unitedL n M m) j) : S i ↔ S j := by
  induction m generalizing i j with
  | zero => rw [unitedL, idL_gt hi, idL_gt hj] at h; rw [h]
  | succ m ih =>
    have ih' := fun {i j} => @ih (fun k hk => hc k (by omega)) i j
    rcases (united_step hi hj).1 h with h | ⟨ho, h⟩
    · exact ih' hi hj h
    · have h1 : pA M m < n := by have := ho; unfold okP at this; simp only [pA]; omega
      have h2 : pB M m < n := by have := ho; unfold okP at this; simp only [pB]; omega
      have e := hc m (by omega) ho
      rcases h with ⟨ha, hb⟩ | ⟨ha, hb⟩
      · rw [ih' hi h1 ha, ih' hj h2 hb]; exact e
      · rw [ih' hi h2 ha, ih' hj h1 hb]; exact e.symm

theorem cntB_lt {n k : Nat} {p q : Nat → Bool} (hk : k < n) (hp : p k = false) (hq : q k = true) (h : ∀ i, i < n → p i = true → q i = true) : cntB n p < cntB n q := by
  have le : ∀ m, m ≤ n → cntB m p ≤ cntB m q := fun m hm => by
    induction m with
    | zero => exact Nat.le_refl _
    | succ m ih =>
      rw [cntB_succ, cntB_succ]
      have := ih (by omega)
      have := h m (by omega)
      split <;> split <;> simp_all <;> omega
  induction n with
  | zero => omega
  | succ n ih =>
    rw [cntB_succ, cntB_succ]
    by_cases hkn : k = n
    · subst hkn
      have := le k (by omega)
      rw [hp, hq]; simp; omega
    · have := ih (by omega) (fun i hi => h i (by omega)) (fun m hm => le m (by omega))
      have := h n (by omega)
      split <;> split <;> simp_all <;> omega

/-! ### Rows of bools -/

def bls (l : List Bool) : List Value := l.map .bool
theorem bls_len (l : List Bool) : (bls l).length = l.length := by simp [bls]
theorem bls_get {l : List Bool} {i : Nat} (hi : i < l.length) : (bls l)[i]? = some (.bool (l.getD i false)) := by
  simp [bls, List.getD, List.getElem?_eq_getElem hi]
theorem bls_set (l : List Bool) (i : Nat) (v : Bool) : (bls l).set i (.bool v) = bls (l.set i v) := by simp [bls]
theorem zrow_bls (n : Nat) : zrow [.bool false] n = bls (List.replicate n false) := by
  induction n with
  | zero => rfl
  | succ n ih => simp only [zrow, List.replicate_succ, List.flatten_cons] at *; rw [ih]; rfl
theorem getD_setB (l : List Bool) (i j : Nat) (v : Bool) : (l.set i v).getD j false = if i = j ∧ j < l.length then v else l.getD j false := by
  simp only [List.getD, List.getElem?_set]
  by_cases h : i = j
  · subst h
    by_cases h2 : i < l.length
    · simp [h2]
    · simp [h2]
  · simp [h]

theorem ix_ldB1 {h : Hp} {b n : Nat} {sv : List Bool} {i : Int} {K : Bool → Prop} (hb : h.blk b = some (.cells (bls sv))) (hn : sv.length = n) (h0 : 0 ≤ i) (h1 : i < n)
    (H : K (sv.getD i.toNat false)) : ix (some ⟨b, 0, none⟩) n i fun a => ldB h (a.add (Int.toNat i * 1)) K := by
  refine ix_of h0 h1 ?_
  rw [add_mk]
  exact ldB_of (by rw [cell_own hb, Nat.zero_add, Nat.mul_one, bls_get (by omega)]) H

theorem ix_stB1 {h : Hp} {b n : Nat} {sv : List Bool} {i : Int} {v : Bool} {K : Hp → Prop} (hb : h.blk b = some (.cells (bls sv))) (hn : sv.length = n) (h0 : 0 ≤ i) (h1 : i < n)
    (H : ∀ h' : Hp, h'.size = h.size → h'.blk b = some (.cells (bls (sv.set i.toNat v))) → (∀ c, c ≠ b → h'.blk c = h.blk c) → K h') :
    ix (some ⟨b, 0, none⟩) n i fun a => stc h ((a.add (Int.toNat i * 1)).add 0) (.bool v) K := by
  refine ix_of h0 h1 ?_
  simp only [add_mk]
  refine stc_of hb (by rw [bls_len]; omega) fun h' hz hb' hk => H h' hz ?_ hk
  rw [hb', Nat.zero_add, Nat.mul_one, Nat.add_zero, bls_set]

end Go.Hx
