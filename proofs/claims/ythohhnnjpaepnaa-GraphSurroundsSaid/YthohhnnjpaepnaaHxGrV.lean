/- Labels of more connections: components and rows. Plain; no program. No condition. -/
import Derived.Test.YthohhnnjpaepnaaHxGrW
namespace Go.Hx
set_option linter.unusedSimpArgs false
set_option linter.unusedVariables false

/-- How many have a label. -/
def kls (L : List Nat) (r : Nat) : Nat := cntB L.length fun k => gt L k == r

theorem cntB_mono' {p q : Nat → Bool} : ∀ {n : Nat}, (∀ i, i < n → p i = true → q i = true) → cntB n p ≤ cntB n q
  | 0, _ => Nat.le_refl _
  | n + 1, h => by
    rw [cntB_succ, cntB_succ]
    have := cntB_mono' (p := p) (q := q) (n := n) fun i hi => h i (by omega)
    have hn := h n (by omega)
    split
    · rename_i c; rw [if_pos (hn c)]; omega
    · split <;> omega

theorem groupL_len (L : List Nat) (r : Nat) : (groupL L r L.length).length = kls L r := rfl

theorem sum0 {l : List Nat} : (l.map fun _ => 0).sum = 0 := by
  induction l with
  | nil => rfl
  | cons a l ih => rw [List.map_cons, List.sum_cons, ih]

theorem sum_pick {f : Nat → Nat} {x : Nat} : ∀ {l : List Nat}, l.Nodup → x ∈ l → (l.map fun r => if x = r then f r else 0).sum = f x
  | [], _, h => by cases h
  | y :: l, nd, h => by
    have nd' := List.nodup_cons.1 nd
    rw [List.map_cons, List.sum_cons]
    by_cases e : x = y
    · subst e
      rw [if_pos rfl]
      have z : (l.map fun r => if x = r then f r else 0) = l.map fun _ => 0 := List.map_congr_left fun r hr => by rw [if_neg (fun q : x = r => nd'.1 (by rw [q]; exact hr))]
      rw [z, sum0, Nat.add_zero]
    · rw [if_neg e, Nat.zero_add]
      rcases List.mem_cons.1 h with q | q
      · exact absurd q e
      · exact sum_pick nd'.2 q

theorem sum_add {f g : Nat → Nat} (l : List Nat) : (l.map fun r => f r + g r).sum = (l.map f).sum + (l.map g).sum := by
  induction l with
  | nil => rfl
  | cons a l ih => rw [List.map_cons, List.sum_cons, ih, List.map_cons, List.sum_cons, List.map_cons, List.sum_cons]; omega

theorem sum_le {f g : Nat → Nat} : ∀ {l : List Nat}, (∀ x, x ∈ l → f x ≤ g x) → (l.map f).sum ≤ (l.map g).sum
  | [], _ => Nat.le_refl _
  | a :: l, h => by
    rw [List.map_cons, List.sum_cons, List.map_cons, List.sum_cons]
    have := h a (List.mem_cons_self ..)
    have := sum_le (f := f) (g := g) (l := l) fun x hx => h x (List.mem_cons_of_mem _ hx)
    omega

/-- What is summed over all of them, class by class. -/
theorem sum_cls {L R : List Nat} (nd : R.Nodup) (hR : ∀ k, k < L.length → gt L k ∈ R) (f : Nat → Nat) : ∀ N, N ≤ L.length → ((List.range N).map fun k => f (gt L k)).sum = (R.map fun r => (cntB N fun k => gt L k == r) * f r).sum := by
  intro N
  induction N with
  | zero =>
    intro _
    have : (R.map fun r => (cntB 0 fun k => gt L k == r) * f r) = R.map fun _ => 0 := List.map_congr_left fun r _ => by
      show 0 * f r = 0
      exact Nat.zero_mul _
    rw [this, sum0]
    rfl
  | succ N ih =>
    intro hN
    rw [List.range_succ, List.map_append, List.sum_append, ih (by omega)]
    simp only [List.map_cons, List.map_nil, List.sum_cons, List.sum_nil, Nat.add_zero]
    rw [← sum_pick (f := f) nd (hR N (by omega)), ← sum_add]
    congr 1
    refine List.map_congr_left fun r _ => ?_
    rw [cntB_succ]
    by_cases e : gt L N = r
    · rw [if_pos e, if_pos (by simpa using e), Nat.add_mul, Nat.one_mul]
    · rw [if_neg e, if_neg (by simpa using e)]; simp

theorem LInv.root {L : List Nat} (d : LInv L) {k : Nat} (hk : k < L.length) : gt L k ∈ rootsL L L.length := by
  have := d.1 k hk
  unfold rootsL
  rw [List.mem_filter, List.mem_range, beq_iff_eq]
  exact ⟨by omega, d.2 k hk⟩

theorem rootsL_nd (L : List Nat) (n : Nat) : (rootsL L n).Nodup := List.nodup_range.filter _

/-- The squares: how many pairs have one label. -/
theorem squares {L : List Nat} (d : LInv L) : ((groupsL L L.length).map fun g => g.length * g.length).sum = ((List.range L.length).map fun k => kls L (gt L k)).sum := by
  rw [sum_cls (rootsL_nd L L.length) (fun k hk => d.root hk) (kls L) L.length (Nat.le_refl _)]
  show ((List.map (fun i => groupL L i L.length) (rootsL L L.length)).map fun g => g.length * g.length).sum = _
  rw [List.map_map]
  rfl

/-! ### What Row sums up -/

theorem rowG_sq {G : List (List Nat)} {c : Nat} (hc : c ≤ 4096) (hG : ∀ g, g ∈ G → g.length ≤ c) (hl : G.length ≤ 4096) : ∀ k, k ≤ G.length → (rowG G k).2 = (((G.take k).map fun g => g.length * g.length).sum : Nat) ∧ ((G.take k).map fun g => g.length * g.length).sum ≤ k * (4096 * 4096) := by
  intro k
  induction k with
  | zero => intro _; exact ⟨rfl, Nat.zero_le _⟩
  | succ k ih =>
    intro hk
    obtain ⟨i1, i2⟩ := ih (by omega)
    have e : G.getD k [] = G[k] := by simp [List.getD, List.getElem?_eq_getElem (show k < G.length by omega)]
    have gl := hG G[k] (List.getElem_mem _)
    have sq : G[k].length * G[k].length ≤ 4096 * 4096 := Nat.mul_le_mul (by omega) (by omega)
    rw [rowG_succ G (by omega), i1, e, List.take_succ_eq_append_getElem (by omega), List.map_append, List.sum_append]
    simp only [List.map_cons, List.map_nil, List.sum_cons, List.sum_nil, Nat.add_zero]
    have b : ((G.take k).map fun g => g.length * g.length).sum ≤ 4096 * (4096 * 4096) := Nat.le_trans i2 (Nat.mul_le_mul_right _ (by omega))
    refine ⟨?_, by rw [Nat.add_mul]; omega⟩
    have e1 : w64 ((G[k].length : Int) * (G[k].length : Int)) = ((G[k].length * G[k].length : Nat) : Int) := by rw [w64, ← Int.natCast_mul, w64_eq (by omega) (by omega)]
    rw [e1, w64, w64_eq (by omega) (by omega)]
    omega

theorem rowG_mx (G : List (List Nat)) : ∀ k, k ≤ G.length → ∃ x : Nat, (rowG G k).1 = x ∧ (∀ i, i < k → (G.getD i []).length ≤ x) ∧ (x = 0 ∨ ∃ i, i < k ∧ (G.getD i []).length = x) := by
  intro k
  induction k with
  | zero => intro _; exact ⟨0, rfl, fun i hi => by omega, .inl rfl⟩
  | succ k ih =>
    intro hk
    obtain ⟨x, e, h1, h2⟩ := ih (by omega)
    rw [rowG_succ G (by omega), e]
    by_cases c : ((G.getD k []).length : Int) > x
    · rw [if_pos c]
      refine ⟨_, rfl, fun i hi => ?_, .inr ⟨k, by omega, rfl⟩⟩
      by_cases q : i = k
      · subst q; exact Nat.le_refl _
      · have := h1 i (by omega); omega
    · rw [if_neg c]
      refine ⟨x, rfl, fun i hi => ?_, ?_⟩
      · by_cases q : i = k
        · subst q; omega
        · exact h1 i (by omega)
      · rcases h2 with h2 | ⟨i, hi, h2⟩
        · exact .inl h2
        · exact .inr ⟨i, by omega, h2⟩

theorem groupsL_mem {L : List Nat} {g : List Nat} : g ∈ groupsL L L.length ↔ ∃ r, r ∈ rootsL L L.length ∧ g = groupL L r L.length := by
  show g ∈ (rootsL L L.length).map (fun i => groupL L i L.length) ↔ _
  rw [List.mem_map]
  exact ⟨fun ⟨r, h, e⟩ => ⟨r, h, e.symm⟩, fun ⟨r, h, e⟩ => ⟨r, h, e.symm⟩⟩

/-- Of more connections: no more components, no smaller greatest, no less squares. -/
theorem LC.more {P Q : Nat → Nat → Prop} {n : Nat} {L L' : List Nat} (d : LC P n L) (e : LC Q n L') (hn : n ≤ 4096) (hPQ : ∀ u v, P u v → Q u v) :
    countV L' ≤ countV L ∧ (rowG (groupsL L L.length) (countV L)).1 ≤ (rowG (groupsL L' L'.length) (countV L')).1 ∧ (rowG (groupsL L L.length) (countV L)).2 ≤ (rowG (groupsL L' L'.length) (countV L')).2 := by
  have l1 := d.len
  have l2 := e.len
  have same : ∀ {u v : Nat}, u < n → v < n → gt L u = gt L v → gt L' u = gt L' v := fun hu hv h => (((d.iff hu hv).1 h).mono hPQ).inv (gt L') e.ed
  have le : ∀ {k : Nat}, k < n → kls L (gt L k) ≤ kls L' (gt L' k) := fun {k} hk => by
    unfold kls
    rw [l1, l2]
    refine cntB_mono' fun i hi h => ?_
    rw [beq_iff_eq] at h ⊢
    exact same hi hk h
  have g1 := groupsL_len L
  have g2 := groupsL_len L'
  have clsle : ∀ (L : List Nat) r, kls L r ≤ L.length := fun L r => cntB_le _ _
  have gle : ∀ (L : List Nat), L.length = n → ∀ g, g ∈ groupsL L L.length → g.length ≤ n := fun L hl g hg => by
    obtain ⟨r, _, rfl⟩ := groupsL_mem.1 hg
    rw [groupL_len]
    have := clsle L r
    omega
  refine ⟨?_, ?_, ?_⟩
  · unfold countV
    rw [l1, l2]
    refine cntB_mono' fun i hi h => ?_
    rw [beq_iff_eq] at h ⊢
    have a1 := d.le i hi
    have a2 := e.le (gt L i) (by omega)
    have a3 := (((d.con i hi).mono hPQ).inv (gt L') e.ed)
    omega
  · obtain ⟨x, ex, _, hx⟩ := rowG_mx (groupsL L L.length) (countV L) (by omega)
    obtain ⟨y, ey, hy, _⟩ := rowG_mx (groupsL L' L'.length) (countV L') (by omega)
    rw [ex, ey]
    rcases hx with rfl | ⟨i, hi, hx⟩
    · omega
    · have him : i < (groupsL L L.length).length := by omega
      rw [List.getD, List.getElem?_eq_getElem him, Option.getD_some] at hx
      obtain ⟨r, hr, eg⟩ := groupsL_mem.1 (List.getElem_mem him)
      rw [eg, groupL_len] at hx
      have hr' := List.mem_filter.1 hr
      have hrn : r < n := by have := List.mem_range.1 hr'.1; omega
      have hrr : gt L r = r := by simpa using hr'.2
      have := le hrn
      rw [hrr, hx] at this
      have hm : groupL L' (gt L' r) L'.length ∈ groupsL L' L'.length := groupsL_mem.2 ⟨_, e.linv.root (by omega), rfl⟩
      obtain ⟨j, hj, ej⟩ := List.getElem_of_mem hm
      have := hy j (by omega)
      rw [List.getD, List.getElem?_eq_getElem hj, Option.getD_some, ej, groupL_len] at this
      omega
  · have s1 := (rowG_sq (c := n) hn (gle L l1) (by have := groupsL_le L L.length; omega) (countV L) (by omega)).1
    have s2 := (rowG_sq (c := n) hn (gle L' l2) (by have := groupsL_le L' L'.length; omega) (countV L') (by omega)).1
    rw [s1, s2, ← g1, List.take_length, ← g2, List.take_length, squares d.linv, squares e.linv, l1, l2]
    have := sum_le (f := fun k => kls L (gt L k)) (g := fun k => kls L' (gt L' k)) (l := List.range n) fun k hk => le (List.mem_range.1 hk)
    omega

end Go.Hx
