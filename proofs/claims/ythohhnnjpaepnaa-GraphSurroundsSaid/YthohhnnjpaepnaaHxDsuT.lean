/- Union-find by lists: parents, sizes, least elements against labels. Plain; no program. No condition. -/
import Derived.Test.YthohhnnjpaepnaaHxLib
namespace Go.Hx
set_option linter.unusedSimpArgs false
set_option linter.unusedVariables false

abbrev gt (l : List Nat) (i : Nat) : Nat := l.getD i 0

theorem gt_set (l : List Nat) (i j v : Nat) : gt (l.set i v) j = if i = j ∧ j < l.length then v else gt l j := by
  simp only [gt, List.getD, List.getElem?_set]
  by_cases h : i = j
  · subst h
    by_cases h2 : i < l.length
    · simp [h2]
    · simp [h2]
  · simp [h]

theorem gt_map (f : Nat → Nat) (l : List Nat) {i : Nat} (hi : i < l.length) : gt (l.map f) i = f (gt l i) := by
  simp [gt, List.getD, List.getElem?_eq_getElem hi]

theorem gt_mem (l : List Nat) {i : Nat} (hi : i < l.length) : gt l i ∈ l := by
  simp [gt, List.getD, List.getElem?_eq_getElem hi]

/-- How many numbers below n have a property. -/
def cntB (n : Nat) (p : Nat → Bool) : Nat := ((List.range n).filter p).length

theorem cntB_succ (n : Nat) (p : Nat → Bool) : cntB (n + 1) p = cntB n p + (if p n then 1 else 0) := by
  unfold cntB
  rw [List.range_succ, List.filter_append, List.length_append]
  congr 1
  by_cases h : p n <;> simp [h]

theorem cntB_congr {n : Nat} {p q : Nat → Bool} (h : ∀ i, i < n → p i = q i) : cntB n p = cntB n q := by
  induction n with
  | zero => rfl
  | succ n ih => rw [cntB_succ, cntB_succ, ih fun i hi => h i (by omega), h n (by omega)]

theorem cntB_le (n : Nat) (p : Nat → Bool) : cntB n p ≤ n := by
  induction n with
  | zero => simp [cntB]
  | succ n ih => rw [cntB_succ]; split <;> omega

/-- One number more. -/
theorem cntB_del {n k : Nat} {p q : Nat → Bool} (hk : k < n) (hp : p k = true) (hq : q k = false) (h : ∀ i, i < n → i ≠ k → p i = q i) : cntB n p = cntB n q + 1 := by
  induction n with
  | zero => omega
  | succ n ih =>
    rw [cntB_succ, cntB_succ]
    by_cases hkn : k = n
    · subst hkn
      rw [cntB_congr (p := p) (q := q) fun i hi => h i (by omega) (by omega), hp, hq]; simp
    · rw [ih (by omega) fun i hi => h i (by omega), h n (by omega) (by omega)]
      omega

theorem cntB_or {n : Nat} {p q r : Nat → Bool} (h : ∀ i, i < n → r i = (p i || q i)) (hd : ∀ i, i < n → ¬ (p i = true ∧ q i = true)) : cntB n r = cntB n p + cntB n q := by
  induction n with
  | zero => rfl
  | succ n ih =>
    rw [cntB_succ, cntB_succ, cntB_succ, ih (fun i hi => h i (by omega)) (fun i hi => hd i (by omega)), h n (by omega)]
    have := hd n (by omega)
    cases hp : p n <;> cases hq : q n <;> simp_all <;> omega

/-- Labels: each is the least element of its set. -/
structure LInv (L : List Nat) : Prop where
  le : ∀ i, i < L.length → gt L i ≤ i
  idem : ∀ i, i < L.length → gt L (gt L i) = gt L i

structure DInv (par siz lea : List Nat) (cnt : Nat) (L : List Nat) (rk : Nat → Nat) : Prop where
  lp : par.length = L.length
  ls : siz.length = L.length
  ll : lea.length = L.length
  lab : LInv L
  lt : ∀ i, i < L.length → gt par i < L.length
  rk : ∀ i, i < L.length → gt par i ≠ i → rk (gt par i) < rk i
  cls : ∀ i, i < L.length → gt L (gt par i) = gt L i
  uni : ∀ i j, i < L.length → j < L.length → gt par i = i → gt par j = j → gt L i = gt L j → i = j
  lea : ∀ i, i < L.length → gt par i = i → gt lea i = gt L i
  siz : ∀ i, i < L.length → gt par i = i → gt siz i = cntB L.length fun k => gt L k == gt L i
  cnt : cnt = cntB L.length fun k => gt L k == k

theorem DInv.split {par siz lea : List Nat} {cnt : Nat} {L : List Nat} {rk : Nat → Nat} (d : DInv par siz lea cnt L rk) {a : Nat} (ha : a < L.length) (hn : gt par a ≠ a) :
    DInv (par.set a (gt par (gt par a))) siz lea cnt L rk ∧ (∀ i, i < L.length → gt par i = i → gt (par.set a (gt par (gt par a))) i = i) := by
  have h1 := d.lt a ha
  have h2 := d.rk a ha hn
  have h3 : rk (gt par (gt par a)) < rk a := by
    by_cases h : gt par (gt par a) = gt par a
    · rw [h]; exact h2
    · have := d.rk _ h1 h; omega
  have g : ∀ i, i < L.length → gt (par.set a (gt par (gt par a))) i = if a = i then gt par (gt par a) else gt par i := fun i hi => by
    rw [gt_set]
    by_cases h : a = i
    · rw [if_pos ⟨h, by rw [d.lp]; exact hi⟩, if_pos h]
    · rw [if_neg (fun k => h k.1), if_neg h]
  have root : ∀ i, i < L.length → gt (par.set a (gt par (gt par a))) i = i → gt par i = i := fun i hi hr => by
    rw [g i hi] at hr
    by_cases h : a = i
    · rw [if_pos h] at hr
      subst h
      rw [hr] at h3; omega
    · rwa [if_neg h] at hr
  refine ⟨⟨by simp [d.lp], d.ls, d.ll, d.lab, fun i hi => ?_, fun i hi hne => ?_, fun i hi => ?_, fun i j hi hj ri rj => d.uni i j hi hj (root i hi ri) (root j hj rj), fun i hi ri => d.lea i hi (root i hi ri),
    fun i hi ri => d.siz i hi (root i hi ri), d.cnt⟩, fun i hi hr => ?_⟩
  · rw [g i hi]; split
    · exact d.lt _ h1
    · exact d.lt i hi
  · rw [g i hi] at hne ⊢
    split
    · rename_i h; subst h; exact h3
    · rename_i h; rw [if_neg h] at hne; exact d.rk i hi hne
  · rw [g i hi]; split
    · rename_i h; subst h
      rw [d.cls _ h1, d.cls a ha]
    · exact d.cls i hi
  · rw [g i hi, if_neg (fun h => hn (by rw [h]; exact hr))]; exact hr

/-- The labels behind a union of the sets of two labels. -/
def mergeL (L : List Nat) (x y : Nat) : List Nat := L.map fun v => if v = max x y then min x y else v

theorem mergeL_len (L : List Nat) (x y : Nat) : (mergeL L x y).length = L.length := by simp [mergeL]
theorem mergeL_gt (L : List Nat) (x y : Nat) {i : Nat} (hi : i < L.length) : gt (mergeL L x y) i = if gt L i = max x y then min x y else gt L i := by
  rw [mergeL, gt_map _ _ hi]
theorem mergeL_comm (L : List Nat) (x y : Nat) : mergeL L x y = mergeL L y x := by simp [mergeL, Nat.max_comm, Nat.min_comm]

theorem LInv.merge {L : List Nat} (d : LInv L) {x y : Nat} (hx : x < L.length) (hy : y < L.length) (ex : gt L x = x) (ey : gt L y = y) : LInv (mergeL L x y) := by
  constructor
  · intro i hi
    rw [mergeL_len] at hi
    have := d.le i hi
    rw [mergeL_gt _ _ _ hi]
    split
    · omega
    · exact this
  · intro i hi
    rw [mergeL_len] at hi
    have h1 := d.le i hi
    have h2 := d.idem i hi
    rw [mergeL_gt _ _ _ hi]
    split
    · rw [mergeL_gt _ _ _ (by omega)]
      rcases Nat.le_total x y with h | h
      · rw [Nat.min_eq_left h, ex]; split <;> rfl
      · rw [Nat.min_eq_right h, ey]; split <;> rfl
    · rename_i h
      rw [mergeL_gt _ _ _ (by omega), h2, if_neg h]

theorem DInv.union {par siz lea : List Nat} {cnt : Nat} {L : List Nat} {rk : Nat → Nat} (d : DInv par siz lea cnt L rk) {a b : Nat} (ha : a < L.length) (hb : b < L.length)
    (ra : gt par a = a) (rb : gt par b = b) (hne : a ≠ b) :
    1 ≤ cnt ∧ gt siz a + gt siz b ≤ L.length ∧
    ∃ rk', DInv (par.set b a) (siz.set a (gt siz a + gt siz b)) (lea.set a (min (gt lea a) (gt lea b))) (cnt - 1) (mergeL L (gt L a) (gt L b)) rk' := by
  have hL : gt L a ≠ gt L b := fun h => hne (d.uni a b ha hb ra rb h)
  have la := d.lab.le a ha
  have lb := d.lab.le b hb
  have ia := d.lab.idem a ha
  have ib := d.lab.idem b hb
  have hmax : max (gt L a) (gt L b) < L.length := by omega
  have emax : gt L (max (gt L a) (gt L b)) = max (gt L a) (gt L b) := by
    rcases Nat.le_total (gt L a) (gt L b) with h | h
    · rw [Nat.max_eq_right h, ib]
    · rw [Nat.max_eq_left h, ia]
  have hcnt : cntB L.length (fun k => gt L k == k) = cntB L.length (fun k => gt (mergeL L (gt L a) (gt L b)) k == k) + 1 := by
    refine cntB_del hmax (by simp only [beq_iff_eq]; exact emax) ?_ fun i hi hik => ?_
    · simp only [beq_eq_false_iff_ne]
      rw [mergeL_gt _ _ _ hmax, if_pos emax]; omega
    · have h2 := d.lab.idem i hi
      rw [mergeL_gt _ _ _ hi]
      split
      · rename_i h
        rw [h]
        have e1 : (max (gt L a) (gt L b) == i) = false := by simp only [beq_eq_false_iff_ne]; exact fun k => hik k.symm
        rw [e1]
        symm
        simp only [beq_eq_false_iff_ne]
        intro k
        rw [← k] at h
        rcases Nat.le_total (gt L a) (gt L b) with g | g
        · rw [Nat.min_eq_left g, Nat.max_eq_right g, ia] at h; exact hL h
        · rw [Nat.min_eq_right g, Nat.max_eq_left g, ib] at h; exact hL h.symm
      · rfl
  have hsum : (cntB L.length fun k => gt (mergeL L (gt L a) (gt L b)) k == min (gt L a) (gt L b)) = gt siz a + gt siz b := by
    rw [d.siz a ha ra, d.siz b hb rb]
    refine cntB_or (fun i hi => ?_) (fun i hi h => ?_)
    · rw [mergeL_gt _ _ _ hi]
      have key : (if gt L i = max (gt L a) (gt L b) then min (gt L a) (gt L b) else gt L i) = min (gt L a) (gt L b) ↔ gt L i = gt L a ∨ gt L i = gt L b := by
        split <;> omega
      rw [Bool.eq_iff_iff]; simp only [beq_iff_eq, Bool.or_eq_true]; exact key
    · simp only [beq_iff_eq] at h; omega
  refine ⟨by rw [d.cnt, hcnt]; omega, by rw [← hsum]; exact cntB_le _ _, fun i => rk i + (if gt L i = gt L b then rk a + 1 else 0), ?_⟩
  have gp : ∀ i, i < L.length → gt (par.set b a) i = if b = i then a else gt par i := fun i hi => by
    rw [gt_set]
    by_cases h : b = i
    · rw [if_pos ⟨h, by rw [d.lp]; exact hi⟩, if_pos h]
    · rw [if_neg (fun k => h k.1), if_neg h]
  have root : ∀ i, i < L.length → gt (par.set b a) i = i → gt par i = i ∧ i ≠ b := fun i hi hr => by
    rw [gp i hi] at hr
    by_cases h : b = i
    · rw [if_pos h] at hr; omega
    · rw [if_neg h] at hr; exact ⟨hr, fun k => h k.symm⟩
  have other : ∀ i, i < L.length → gt par i = i → i ≠ a → i ≠ b → gt L i ≠ gt L a ∧ gt L i ≠ gt L b := fun i hi hr h1 h2 =>
    ⟨fun k => h1 (d.uni i a hi ha hr ra k), fun k => h2 (d.uni i b hi hb hr rb k)⟩
  have ma : gt (mergeL L (gt L a) (gt L b)) a = min (gt L a) (gt L b) := by rw [mergeL_gt _ _ _ ha]; split <;> omega
  have mb : gt (mergeL L (gt L a) (gt L b)) b = min (gt L a) (gt L b) := by rw [mergeL_gt _ _ _ hb]; split <;> omega
  constructor
  · simp [mergeL_len, d.lp]
  · simp [mergeL_len, d.ls]
  · simp [mergeL_len, d.ll]
  · exact d.lab.merge (by omega) (by omega) ia ib
  · intro i hi
    rw [mergeL_len] at hi ⊢
    rw [gp i hi]; split
    · exact ha
    · exact d.lt i hi
  · intro i hi hn
    rw [mergeL_len] at hi
    rw [gp i hi] at hn ⊢
    by_cases h : b = i
    · subst h
      rw [if_pos rfl]
      rw [if_neg hL, if_pos rfl]
      omega
    · rw [if_neg h] at hn ⊢
      have := d.rk i hi hn
      rw [d.cls i hi]
      split <;> omega
  · intro i hi
    rw [mergeL_len] at hi
    rw [gp i hi]
    by_cases h : b = i
    · subst h; rw [if_pos rfl, ma, mb]
    · rw [if_neg h, mergeL_gt _ _ _ (d.lt i hi), mergeL_gt _ _ _ hi, d.cls i hi]
  · intro i j hi hj ri rj he
    rw [mergeL_len] at hi hj
    obtain ⟨ri, hib⟩ := root i hi ri
    obtain ⟨rj, hjb⟩ := root j hj rj
    rw [mergeL_gt _ _ _ hi, mergeL_gt _ _ _ hj] at he
    by_cases h1 : i = a
    · by_cases h2 : j = a
      · rw [h1, h2]
      · have := other j hj rj h2 hjb
        subst h1
        exfalso
        revert he
        split <;> split <;> omega
    · have o1 := other i hi ri h1 hib
      by_cases h2 : j = a
      · subst h2
        exfalso
        revert he
        split <;> split <;> omega
      · have o2 := other j hj rj h2 hjb
        refine d.uni i j hi hj ri rj ?_
        revert he
        split <;> split <;> omega
  · intro i hi ri
    rw [mergeL_len] at hi
    obtain ⟨ri, hib⟩ := root i hi ri
    rw [gt_set]
    by_cases h1 : a = i
    · rw [if_pos ⟨h1, by rw [d.ll]; exact hi⟩, ← h1, ma, d.lea a ha ra, d.lea b hb rb]
    · rw [if_neg (fun k => h1 k.1), d.lea i hi ri, mergeL_gt _ _ _ hi, if_neg]
      have := other i hi ri (fun k => h1 k.symm) hib
      omega
  · intro i hi ri
    rw [mergeL_len] at hi
    obtain ⟨ri, hib⟩ := root i hi ri
    rw [mergeL_len, gt_set]
    by_cases h1 : a = i
    · rw [if_pos ⟨h1, by rw [d.ls]; exact hi⟩, ← h1, ma, hsum]
    · have := other i hi ri (fun k => h1 k.symm) hib
      rw [if_neg (fun k => h1 k.1), d.siz i hi ri, mergeL_gt L _ _ hi, if_neg (by omega)]
      refine cntB_congr fun k hk => ?_
      rw [mergeL_gt _ _ _ hk, Bool.eq_iff_iff]
      simp only [beq_iff_eq]
      split <;> omega
  · rw [mergeL_len, d.cnt, hcnt]; omega

/-- The start: each element by itself. -/
def idL (n : Nat) : List Nat := List.range n
theorem idL_gt {n i : Nat} (h : i < n) : gt (idL n) i = i := by simp [gt, idL, List.getD, List.getElem?_range h]
theorem rep_gt {n i v : Nat} (h : i < n) : gt (List.replicate n v) i = v := by simp [gt, List.getD, List.getElem?_replicate, h]

theorem cntB_one {n i : Nat} (h : i < n) : (cntB n fun k => k == i) = 1 := by
  have z : ∀ m, m ≤ i → (cntB m fun k => k == i) = 0 := fun m hm => by
    induction m with
    | zero => rfl
    | succ m ih => rw [cntB_succ, ih (by omega), if_neg (by simp; omega)]
  induction n with
  | zero => omega
  | succ n ih =>
    rw [cntB_succ]
    by_cases hn : i = n
    · subst hn; rw [z _ (Nat.le_refl _)]; simp
    · rw [ih (by omega), if_neg (by simp; omega)]

theorem cntB_all (n : Nat) : (cntB n fun _ => true) = n := by
  induction n with
  | zero => rfl
  | succ n ih => rw [cntB_succ, ih]; simp

theorem idL_inv (n : Nat) : LInv (idL n) := by
  constructor
  · intro i hi
    have : i < n := by simpa [idL] using hi
    rw [idL_gt this]; exact Nat.le_refl _
  · intro i hi
    have : i < n := by simpa [idL] using hi
    rw [idL_gt this, idL_gt this]

theorem DInv.start (n : Nat) : DInv (idL n) (List.replicate n 1) (idL n) n (idL n) (fun _ => 0) := by
  have l : (idL n).length = n := by simp [idL]
  constructor
  · rfl
  · simp [l]
  · rfl
  · exact idL_inv n
  · intro i hi; rw [l] at hi ⊢; rw [idL_gt hi]; exact hi
  · intro i hi hn; rw [l] at hi; exact absurd (idL_gt hi) hn
  · intro i hi; rw [l] at hi; rw [idL_gt hi, idL_gt hi]
  · intro i j hi hj _ _ h; rw [l] at hi hj; rwa [idL_gt hi, idL_gt hj] at h
  · intro i hi _; rfl
  · intro i hi _
    rw [l] at hi ⊢
    rw [rep_gt hi, idL_gt hi, cntB_congr (q := fun k => k == i) fun k hk => by rw [idL_gt hk], cntB_one hi]
  · rw [l, cntB_congr (q := fun _ => true) fun k hk => by rw [idL_gt hk]; exact beq_self_eq_true k, cntB_all]

end Go.Hx
