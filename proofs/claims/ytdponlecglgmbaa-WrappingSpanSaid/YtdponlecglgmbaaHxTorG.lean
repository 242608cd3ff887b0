/- One edge more: components and wraps; displacements against columns and rows. Plain. No condition. -/
import Derived.Test.YtdponlecglgmbaaHxTorF
namespace Go.Hx
set_option linter.unusedSimpArgs false
set_option linter.unusedVariables false

/-- There are lists that stand for the edges. -/
def TI (R : ER) (n : Nat) : Prop := ∃ par siz o wr all cnt L lea rk P, TInv R n par siz o wr all cnt L lea rk P

theorem TI.add {R : ER} {n a b : Nat} {p q : Int} (h : TI R n) (ha : a < n) (hb : b < n) (hst : ∀ k, -1 ≤ pr k p q ∧ pr k p q ≤ 1) :
    TI (addE R a b p q) n ∧ (Conn R a b → compN n (addE R a b p q) = compN n R) ∧ (¬ Conn R a b → compN n (addE R a b p q) + 1 = compN n R) ∧
    ∀ k, (∃ v, v < n ∧ WrapC (addE R a b p q) v k) ↔ (∃ v, v < n ∧ WrapC R v k) ∨ ∃ x y, Wk R a b x y ∧ pr k x y ≠ pr k p q := by
  obtain ⟨par, siz, o, wr, all, cnt, L, lea, rk, P, t⟩ := h
  obtain ⟨A, hA, rA, lA⟩ := t.root ha
  obtain ⟨B, hB, rB, lB⟩ := t.root hb
  have c0 := t.count
  by_cases hAB : A = B
  · subst hAB
    have hc : Conn R a b := (t.conn ha hb).1 (lA.symm.trans lB)
    have hi := t.close (a := a) (b := b) (r := A) (p := p) (q := q) (wr' := fun i k => wr i k || (decide (i = A) && decide (pr k p q + P k b - P k a ≠ 0))) (all' := fun k => all k || decide (pr k p q + P k b - P k a ≠ 0)) ha hb hA rA lA lB (fun i k hi => rfl) (fun k => rfl)
    have c1 := hi.count
    refine ⟨⟨_, _, _, _, _, _, _, _, _, _, hi⟩, fun _ => by omega, fun h => absurd hc h, fun k => ?_⟩
    rw [← hi.allW k, ← t.allW k, Bool.or_eq_true, decide_eq_true_eq]
    have w1 := (t.wk a A ha hA rA lA).trans (t.wk b A hb hA rA lB).symm
    have e1 : pr k (P false a + -P false b) (P true a + -P true b) = P k a - P k b := by rw [pr_add, pr_neg, pr_P, pr_P]; omega
    constructor
    · rintro (h | h)
      · exact .inl h
      · refine .inr ⟨_, _, w1, ?_⟩
        rw [e1]; omega
    · rintro (h | ⟨x, y, hw, hne⟩)
      · exact .inl h
      · by_cases e : pr k x y = P k a - P k b
        · exact .inr (by omega)
        · refine .inl ((t.allW k).2 ⟨a, ha, _, _, hw.trans w1.symm, ?_⟩)
          rw [pr_add, pr_neg, e1]; omega
  · have hc : ¬ Conn R a b := fun c => hAB (t.d.uni A B (by rw [t.nl]; exact hA) (by rw [t.nl]; exact hB) rA rB (by rw [lA, lB]; exact (t.conn ha hb).2 c))
    obtain ⟨k1, _, L', lea', rk', P', hi⟩ := t.hang (a := a) (b := b) (x := A) (y := B) (p := p) (q := q) (w := fun k => pr k p q + P k b - P k a) (o' := fun k i => if i = A then pr k p q + P k b - P k a else o k i)
      (wr' := fun i k => if i = B then (wr B k || wr A k) else wr i k) ha hb hA hB rA rB hAB hst (.inl ⟨lA, lB, fun _ => rfl⟩) (fun k i _ => rfl) (fun i k _ => rfl)
    have c1 := hi.count
    refine ⟨⟨_, _, _, _, _, _, _, _, _, _, hi⟩, fun h => absurd h hc, fun _ => by omega, fun k => ?_⟩
    rw [← hi.allW k, ← t.allW k]
    exact ⟨.inl, fun h => h.elim id fun ⟨x, y, hw, _⟩ => absurd ⟨x, y, hw⟩ hc⟩

theorem TI.eR {w t : Nat} (hw : 1 ≤ w) (ht : 1 ≤ t) : ∀ (E : List Nat), (∀ e ∈ E, e < 2 * (w * t)) → TI (eR w t E) (w * t)
  | [], _ => by rw [eR_nil]; exact ⟨_, _, _, _, _, _, _, _, _, _, TInv.start (w * t)⟩
  | e :: E, h => by
    have ih := TI.eR hw ht E fun f hf => h f (List.mem_cons_of_mem _ hf)
    have he := h e List.mem_cons_self
    rw [← addE_eR]
    exact (ih.add (by omega) (toV_lt hw ht (by omega)) (st_le _)).1

theorem TI.bound {R : ER} {n : Nat} (h : TI R n) {a b : Nat} (ha : a < n) (hb : b < n) (hk : ∀ k, ¬ WrapC R a k) {x y : Int} (g : Wk R a b x y) : -(2 * (n : Int)) ≤ x ∧ x ≤ 2 * n ∧ -(2 * (n : Int)) ≤ y ∧ y ≤ 2 * n := by
  obtain ⟨par, siz, o, wr, all, cnt, L, lea, rk, P, t⟩ := h
  have hl := (t.conn ha hb).2 ⟨x, y, g⟩
  obtain ⟨A, hA, rA, lA⟩ := t.root ha
  have w1 := (t.wk a A ha hA rA lA).trans (t.wk b A hb hA rA (lA.trans hl)).symm
  obtain ⟨rfl, rfl⟩ := g.uniq hk w1
  have b1 := t.bound ha false; have b2 := t.bound ha true; have b3 := t.bound hb false; have b4 := t.bound hb true
  omega

/-! ### Columns and rows -/

theorem toV_col (w t v D : Nat) (hw : 1 ≤ w) : ∃ m : Int, ((toV w t v D % w : Nat) : Int) = ((v % w : Nat) : Int) + stX D + m * w := by
  have h1 : v % w < w := Nat.mod_lt _ hw
  unfold toV stX
  split
  · rw [Nat.mul_comm, Nat.mul_add_mod, Nat.mod_mod]
    by_cases e : v % w + 1 = w
    · refine ⟨-1, ?_⟩
      rw [e, Nat.mod_self]; omega
    · refine ⟨0, ?_⟩
      rw [Nat.mod_eq_of_lt (by omega)]; omega
  · refine ⟨0, ?_⟩
    rw [Nat.mul_comm, Nat.mul_add_mod, Nat.mod_mod]; omega

theorem toV_row (w t v D : Nat) (hw : 1 ≤ w) (ht : 1 ≤ t) : ∃ m : Int, ((toV w t v D / w : Nat) : Int) = ((v / w : Nat) : Int) + stY D + m * t := by
  have h1 : v % w < w := Nat.mod_lt _ hw
  have h2 : (v % w + 1) % w < w := Nat.mod_lt _ hw
  unfold toV stY
  split
  · refine ⟨0, ?_⟩
    rw [Nat.mul_comm, Nat.mul_add_div hw, Nat.div_eq_of_lt h2]; omega
  · rw [Nat.mul_comm, Nat.mul_add_div hw, Nat.div_eq_of_lt h1]
    refine ⟨-(((v / w + 1) / t : Nat) : Int), ?_⟩
    have h3 := Nat.div_add_mod (v / w + 1) t
    have h4 : (((v / w + 1) / t : Nat) : Int) * t = ((t * ((v / w + 1) / t) : Nat) : Int) := by rw [Int.natCast_mul, Int.mul_comm]
    rw [Int.neg_mul, h4]
    omega

theorem Wk.col {w t : Nat} {E : List Nat} (hw : 1 ≤ w) {a b : Nat} {x y : Int} (h : Wk (eR w t E) a b x y) : ∃ m : Int, ((b % w : Nat) : Int) = ((a % w : Nat) : Int) + x + m * w := by
  induction h with
  | refl => exact ⟨0, by omega⟩
  | fwd _ e ih =>
    obtain ⟨m, ih⟩ := ih
    obtain ⟨f, _, rfl, rfl, rfl, rfl⟩ := e
    obtain ⟨m', e'⟩ := toV_col w t (f / 2) (f % 2) hw
    refine ⟨m + m', ?_⟩
    rw [Int.add_mul]; omega
  | bwd _ e ih =>
    obtain ⟨m, ih⟩ := ih
    obtain ⟨f, _, rfl, rfl, rfl, rfl⟩ := e
    obtain ⟨m', e'⟩ := toV_col w t (f / 2) (f % 2) hw
    refine ⟨m - m', ?_⟩
    rw [Int.sub_mul]; omega

theorem Wk.row {w t : Nat} {E : List Nat} (hw : 1 ≤ w) (ht : 1 ≤ t) {a b : Nat} {x y : Int} (h : Wk (eR w t E) a b x y) : ∃ m : Int, ((b / w : Nat) : Int) = ((a / w : Nat) : Int) + y + m * t := by
  induction h with
  | refl => exact ⟨0, by omega⟩
  | fwd _ e ih =>
    obtain ⟨m, ih⟩ := ih
    obtain ⟨f, _, rfl, rfl, rfl, rfl⟩ := e
    obtain ⟨m', e'⟩ := toV_row w t (f / 2) (f % 2) hw ht
    refine ⟨m + m', ?_⟩
    rw [Int.add_mul]; omega
  | bwd _ e ih =>
    obtain ⟨m, ih⟩ := ih
    obtain ⟨f, _, rfl, rfl, rfl, rfl⟩ := e
    obtain ⟨m', e'⟩ := toV_row w t (f / 2) (f % 2) hw ht
    refine ⟨m - m', ?_⟩
    rw [Int.sub_mul]; omega

end Go.Hx
