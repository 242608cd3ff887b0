/- Connections by pairs, and labels that are least. Plain; no program. No condition. -/
import Derived.Test.YthohhnnjpaepnaaHxPos
namespace Go.Hx
set_option linter.unusedSimpArgs false
set_option linter.unusedVariables false

/-- Connected by pairs, there or back. -/
inductive Cn (P : Nat → Nat → Prop) : Nat → Nat → Prop
  | refl (a : Nat) : Cn P a a
  | fwd {a b c : Nat} : Cn P a b → P b c → Cn P a c
  | bwd {a b c : Nat} : Cn P a b → P c b → Cn P a c

namespace Cn
variable {P Q : Nat → Nat → Prop} {a b c : Nat}
theorem trans (h : Cn P a b) (g : Cn P b c) : Cn P a c := by
  induction g with
  | refl => exact h
  | fwd _ e ih => exact .fwd ih e
  | bwd _ e ih => exact .bwd ih e
theorem one (h : P a b) : Cn P a b := .fwd (.refl a) h
theorem back (h : P a b) : Cn P b a := .bwd (.refl b) h
theorem symm (h : Cn P a b) : Cn P b a := by
  induction h with
  | refl => exact .refl _
  | fwd _ e ih => exact (back e).trans ih
  | bwd _ e ih => exact (one e).trans ih
theorem mono (hPQ : ∀ u v, P u v → Q u v) (h : Cn P a b) : Cn Q a b := by
  induction h with
  | refl => exact .refl _
  | fwd _ e ih => exact .fwd ih (hPQ _ _ e)
  | bwd _ e ih => exact .bwd ih (hPQ _ _ e)
theorem inv {α : Type} (f : Nat → α) (hf : ∀ u v, P u v → f u = f v) (h : Cn P a b) : f a = f b := by
  induction h with
  | refl => rfl
  | fwd _ e ih => exact ih.trans (hf _ _ e)
  | bwd _ e ih => exact ih.trans (hf _ _ e).symm
theorem const (R : Nat → Prop) (hf : ∀ u v, P u v → (R u ↔ R v)) (h : Cn P a b) : R a ↔ R b := by
  induction h with
  | refl => exact Iff.rfl
  | fwd _ e ih => exact ih.trans (hf _ _ e)
  | bwd _ e ih => exact ih.trans (hf _ _ e).symm
end Cn

/-- Least labels of the connections. -/
structure LC (P : Nat → Nat → Prop) (n : Nat) (L : List Nat) : Prop where
  len : L.length = n
  le : ∀ v, v < n → gt L v ≤ v
  con : ∀ v, v < n → Cn P v (gt L v)
  ed : ∀ u v, P u v → gt L u = gt L v

namespace LC
variable {P : Nat → Nat → Prop} {n : Nat} {L : List Nat}

theorem iff (d : LC P n L) {u v : Nat} (hu : u < n) (hv : v < n) : gt L u = gt L v ↔ Cn P u v :=
  ⟨fun h => (d.con u hu).trans (by rw [h]; exact (d.con v hv).symm), fun h => h.inv (gt L) d.ed⟩

theorem uniq {L' : List Nat} (d : LC P n L) (d' : LC P n L') : L = L' := by
  have key : ∀ v, v < n → gt L v = gt L' v := by
    have one : ∀ {A B : List Nat}, LC P n A → LC P n B → ∀ v, v < n → gt A v ≤ gt B v := fun {A B} a b v hv => by
      have h1 := b.le v hv
      have h2 := a.le (gt B v) (by omega)
      rw [← (b.con v hv).inv (gt A) a.ed] at h2
      exact h2
    intro v hv
    exact Nat.le_antisymm (one d d' v hv) (one d' d v hv)
  refine List.ext_getElem (by rw [d.len, d'.len]) fun i h1 h2 => ?_
  have := key i (by rw [← d.len]; exact h1)
  simpa [gt, List.getD, List.getElem?_eq_getElem h1, List.getElem?_eq_getElem h2] using this

theorem start (n : Nat) : LC (fun _ _ => False) n (idL n) :=
  ⟨by simp [idL], fun v hv => by rw [idL_gt hv]; exact Nat.le_refl _, fun v hv => by rw [idL_gt hv]; exact .refl v, fun _ _ h => h.elim⟩

theorem linv (d : LC P n L) : LInv L :=
  ⟨fun v hv => d.le v (by rw [← d.len]; exact hv), fun v hv => ((d.con v (by rw [← d.len]; exact hv)).inv (gt L) d.ed).symm⟩

/-- One pair more. -/
theorem union (d : LC P n L) (Pn : ∀ u v, P u v → u < n ∧ v < n) {a b : Nat} (ha : a < n) (hb : b < n) : LC (fun u v => P u v ∨ (u = a ∧ v = b)) n (if gt L a = gt L b then L else mergeL L (gt L a) (gt L b)) := by
  have mo : ∀ u v, P u v → P u v ∨ (u = a ∧ v = b) := fun _ _ h => .inl h
  have ab : Cn (fun u v => P u v ∨ (u = a ∧ v = b)) a b := .one (.inr ⟨rfl, rfl⟩)
  split
  · rename_i e
    refine ⟨d.len, d.le, fun v hv => (d.con v hv).mono mo, ?_⟩
    rintro u v (h | ⟨rfl, rfl⟩)
    · exact d.ed _ _ h
    · exact e
  · have g : ∀ i, i < n → gt (mergeL L (gt L a) (gt L b)) i = if gt L i = max (gt L a) (gt L b) then min (gt L a) (gt L b) else gt L i := fun i hi => mergeL_gt _ _ _ (by rw [d.len]; exact hi)
    refine ⟨by rw [mergeL_len, d.len], fun v hv => ?_, fun v hv => ?_, ?_⟩
    · have := d.le v hv
      rw [g v hv]; split <;> omega
    · rw [g v hv]
      have c0 := (d.con v hv).mono mo
      split
      · rename_i h
        have ca := (d.con a ha).mono mo
        have cb := (d.con b hb).mono mo
        refine c0.trans ?_
        rw [h]
        rcases Nat.le_total (gt L a) (gt L b) with q | q
        · rw [Nat.max_eq_right q, Nat.min_eq_left q]
          exact cb.symm.trans (ab.symm.trans ca)
        · rw [Nat.max_eq_left q, Nat.min_eq_right q]
          exact ca.symm.trans (ab.trans cb)
      · exact c0
    · rintro u v (h | ⟨rfl, rfl⟩)
      · obtain ⟨h1, h2⟩ := Pn u v h
        rw [g u h1, g v h2, d.ed u v h]
      · rw [g u ha, g v hb]
        split <;> split <;> omega
end LC

/-! ### Graphs as rows of numbers: three for each edge -/

def eU (M : List Int) (i : Nat) : Nat := (M.getD (i * 3 + 0) 0).toNat
def eV (M : List Int) (i : Nat) : Nat := (M.getD (i * 3 + 1) 0).toNat
/-- The pairs of the first edges. -/
def eP (M : List Int) (k : Nat) (u v : Nat) : Prop := ∃ i, i < k ∧ u = eU M i ∧ v = eV M i

theorem eP_zero (M : List Int) : eP M 0 = fun _ _ => False := by
  funext u v; exact propext ⟨fun ⟨i, hi, _⟩ => by omega, fun h => h.elim⟩
theorem eP_succ (M : List Int) (k : Nat) : eP M (k + 1) = fun u v => eP M k u v ∨ (u = eU M k ∧ v = eV M k) := by
  funext u v
  refine propext ⟨fun ⟨i, hi, h⟩ => ?_, ?_⟩
  · by_cases e : i = k
    · subst e; exact .inr h
    · exact .inl ⟨i, by omega, h⟩
  · rintro (⟨i, hi, h⟩ | h)
    · exact ⟨i, by omega, h⟩
    · exact ⟨k, by omega, h⟩

/-- An edge that a graph may have. -/
def okE (n : Int) (M : List Int) (i : Nat) : Prop := (0 ≤ M.getD (i * 3 + 0) 0 ∧ M.getD (i * 3 + 0) 0 < n ∧ 0 ≤ M.getD (i * 3 + 1) 0 ∧ M.getD (i * 3 + 1) 0 < n) ∧ M.getD (i * 3 + 0) 0 ≠ M.getD (i * 3 + 1) 0

def GOk (n : Int) (m : Nat) (M : List Int) : Prop := 0 ≤ n ∧ n ≤ 4096 ∧ m ≤ 16384 ∧ ∀ i, i < m → okE n M i

def outE (n : Int) (M : List Int) (i : Nat) : Prop := ¬ (0 ≤ M.getD (i * 3 + 0) 0 ∧ M.getD (i * 3 + 0) 0 < n ∧ 0 ≤ M.getD (i * 3 + 1) 0 ∧ M.getD (i * 3 + 1) 0 < n)

/-- The error that a graph is refused with. -/
def GErr (n : Int) (m : Nat) (M : List Int) (e : Int) : Prop :=
  (e = 2 ∧ ¬ (0 ≤ n ∧ n ≤ 4096 ∧ m ≤ 16384)) ∨ ((0 ≤ n ∧ n ≤ 4096 ∧ m ≤ 16384) ∧ ∃ i, i < m ∧ (∀ j, j < i → okE n M j) ∧ ((e = 3 ∧ outE n M i) ∨ (e = 9 ∧ ¬ outE n M i ∧ ¬ okE n M i)))

theorem GErr.not {n : Int} {m : Nat} {M : List Int} {e : Int} (h : GErr n m M e) : ¬ GOk n m M := by
  rintro ⟨h1, h2, h3, h4⟩
  rcases h with ⟨_, h⟩ | ⟨_, i, hi, _, ⟨_, h⟩ | ⟨_, _, h⟩⟩
  · exact h ⟨h1, h2, h3⟩
  · exact h (h4 i hi).1
  · exact h (h4 i hi)

theorem GErr.uniq {n : Int} {m : Nat} {M : List Int} {e e' : Int} (h : GErr n m M e) (g : GErr n m M e') : e = e' := by
  rcases h with ⟨rfl, h⟩ | ⟨h0, i, hi, hj, h⟩ <;> rcases g with ⟨rfl, g⟩ | ⟨g0, i', hi', gj, g⟩
  · rfl
  · exact absurd g0 h
  · exact absurd h0 g
  · have bad : ∀ {k : Nat} {f : Int}, ((f = 3 ∧ outE n M k) ∨ (f = 9 ∧ ¬ outE n M k ∧ ¬ okE n M k)) → ¬ okE n M k := by
      rintro k f (⟨_, q⟩ | ⟨_, _, q⟩)
      · exact fun o => q o.1
      · exact q
    obtain rfl : i = i' := by
      rcases Nat.lt_trichotomy i i' with q | q | q
      · exact absurd (gj i q) (bad h)
      · exact q
      · exact absurd (hj i' q) (bad g)
    rcases h with ⟨rfl, h⟩ | ⟨rfl, h, _⟩ <;> rcases g with ⟨rfl, g⟩ | ⟨rfl, g, _⟩
    · rfl
    · exact absurd h g
    · exact absurd g h
    · rfl

theorem GErr.ne {n : Int} {m : Nat} {M : List Int} {e : Int} (h : GErr n m M e) : e ≠ 0 := by
  rcases h with ⟨rfl, _⟩ | ⟨_, i, _, _, ⟨rfl, _⟩ | ⟨rfl, _⟩⟩ <;> omega

theorem okE.lt {n : Nat} {M : List Int} {i : Nat} (h : okE (n : Int) M i) : eU M i < n ∧ eV M i < n ∧ eU M i ≠ eV M i ∧ M.getD (i * 3 + 0) 0 = (eU M i : Nat) ∧ M.getD (i * 3 + 1) 0 = (eV M i : Nat) := by
  obtain ⟨⟨h1, h2, h3, h4⟩, h5⟩ := h
  unfold eU eV
  omega

theorem eP_lt {n m : Nat} {M : List Int} (h : ∀ i, i < m → okE (n : Int) M i) {k : Nat} (hk : k ≤ m) (u v : Nat) (g : eP M k u v) : u < n ∧ v < n := by
  obtain ⟨i, hi, rfl, rfl⟩ := g
  have := (h i (by omega)).lt
  exact ⟨this.1, this.2.1⟩

end Go.Hx
