/- The abstract heap on which the printed conditions speak, and how a world is read as one. No condition. -/
import Derived.Below
namespace Go.Hx
set_option linter.unusedSimpArgs false
set_option linter.unusedVariables false
open Go.RowKit

/-- A block as the conditions see it: one that was there before (below the base), a row of cells of the program's own, a map of its own, the record of a range over a function. -/
inductive Blk where
  | old (o : Obj)
  | cells (xs : List Value)
  | map (es : List (Value × Value))
  | lp (r : Loop)

structure Hp where
  size : Nat
  blk : Nat → Option Blk

def absO : Obj → Option Blk
  | .cells c _ (lo, hi) => if hi ≤ lo then some (.cells c.toList) else none
  | .map es _ => some (.map (es.toList.map fun e => (e.key, e.val)))
  | .loop r => some (.lp r)
  | _ => none

def absB (B b : Nat) (o : Obj) : Option Blk := if b < B then some (.old o) else absO o

def absW (B : Nat) (w : World) : Hp := ⟨w.heap.size, fun b => (w.heap[b]?).bind (absB B b)⟩

@[ext] theorem Hp.ext' {h h' : Hp} (hs : h.size = h'.size) (hb : ∀ b, h.blk b = h'.blk b) : h = h' := by
  cases h; cases h'; simp at hs; subst hs; congr; exact funext hb

namespace Hp

def cell (h : Hp) (a : Addr) : Option Value :=
  if a.spot.isSome then none else
  match h.blk a.block with
  | some (.cells xs) => xs[a.off]?
  | some (.old (.cells c _ _)) => c[a.off]?
  | _ => none

/-- The cells of a whole row, of the program's own or not. -/
def row (h : Hp) (b : Nat) : Option (List Value) :=
  match h.blk b with
  | some (.cells xs) => some xs
  | some (.old (.cells c _ _)) => some c.toList
  | _ => none

/-- m cells from an address on. -/
def seg (h : Hp) (a : Option Addr) (m : Nat) : Option (List Value) :=
  if m = 0 then some [] else
  match a with
  | none => none
  | some a => if a.spot.isSome then none else
    match h.row a.block with
    | some xs => if a.off + m ≤ xs.length then some ((xs.drop a.off).take m) else none
    | none => none

/-- A cell of the program's own may be written. -/
def wr (h : Hp) (a : Addr) : Prop := a.spot = none ∧ ∃ xs, h.blk a.block = some (.cells xs) ∧ a.off < xs.length

def upd (h : Hp) (b : Nat) (x : Option Blk) : Hp := { h with blk := fun c => if c = b then x else h.blk c }

def set (h : Hp) (a : Addr) (v : Value) : Hp :=
  h.upd a.block (match h.blk a.block with
    | some (.cells xs) => some (.cells (xs.set a.off v))
    | o => o)

def push (h : Hp) (xs : List Value) : Hp := { size := h.size + 1, blk := fun c => if c = h.size then some (.cells xs) else h.blk c }

def pushMap (h : Hp) : Hp := { size := h.size + 1, blk := fun c => if c = h.size then some (.map []) else h.blk c }

/-- A new block, seen as this. -/
def pushB (h : Hp) (x : Option Blk) : Hp := { size := h.size + 1, blk := fun c => if c = h.size then x else h.blk c }

/-- Stores one behind the other. -/
def setl (h : Hp) (a : Addr) : List Value → Nat → Hp
  | [], _ => h
  | v :: vs, i => (h.set (a.add i) v).setl a vs (i + 1)

end Hp

/-! ### A world read as a heap -/

section
variable {B : Nat} {w : World}

theorem cell_absW {a : Addr} {v : Value} (h : (absW B w).cell a = some v) : w.cell? a = some v := by
  unfold Hp.cell absW at h
  unfold World.cell?
  by_cases hs : a.spot.isSome
  · simp [hs] at h
  · simp only [hs, Bool.false_eq_true, if_false] at h
    cases hb : w.heap[a.block]? with
    | none => simp [hb] at h
    | some o =>
      simp only [hb, Option.bind_some, absB] at h
      by_cases hB : a.block < B
      · simp only [hB, if_true] at h
        cases o <;> simp_all
      · simp only [hB, if_false] at h
        cases o with
        | cells c e fr =>
          obtain ⟨lo, hi⟩ := fr
          simp only [absO] at h
          by_cases hf : hi ≤ lo
          · simp only [hf, if_true] at h
            simp [hs] ; simpa using h
          · simp [hf] at h
        | map es ck => simp [absO] at h
        | _ => simp [absO] at h

theorem wr_absW {a : Addr} (h : (absW B w).wr a) : B ≤ a.block ∧ (∃ v, w.cell? a = some v) ∧ w.frozen? a = false ∧ a.spot = none ∧
    ∃ c e fr, w.heap[a.block]? = some (.cells c e fr) ∧ fr.2 ≤ fr.1 ∧ a.off < c.size := by
  obtain ⟨hs, xs, hx, hl⟩ := h
  unfold absW at hx
  cases hb : w.heap[a.block]? with
  | none => simp [hb] at hx
  | some o =>
    simp only [hb, Option.bind_some, absB] at hx
    by_cases hB : a.block < B
    · simp [hB] at hx
    · simp only [hB, if_false] at hx
      cases o with
      | cells c e fr =>
        obtain ⟨lo, hi⟩ := fr
        simp only [absO] at hx
        by_cases hf : hi ≤ lo
        · simp only [hf, if_true, Option.some.injEq, Blk.cells.injEq] at hx
          subst hx
          have hl' : a.off < c.size := by simpa using hl
          refine ⟨by omega, ⟨c[a.off], ?_⟩, ?_, hs, c, e, (lo, hi), rfl, hf, hl'⟩
          · simp [World.cell?, hb, hs, hl']
          · simp [World.frozen?, hb]; omega
        · simp [hf] at hx
      | map es ck => simp [absO] at hx
      | _ => simp [absO] at hx

theorem set_absW {a : Addr} (v : Value) (h : (absW B w).wr a) : absW B (w.setCell a v) = (absW B w).set a v := by
  obtain ⟨hB, _, _, hs, c, e, ⟨lo, hi⟩, hb, hf, hl⟩ := wr_absW h
  apply Hp.ext'
  · simp [absW, World.setCell, Hp.set, Hp.upd]
  · intro b
    simp only [absW, Hp.set, Hp.upd]
    by_cases hba : b = a.block
    · subst hba
      have : (w.setCell a v).heap[a.block]? = some (.cells (c.setIfInBounds a.off v) e (lo, hi)) := by
        simp [World.setCell, Array.getElem?_modify, hb, hs]
      have hn : ¬ a.block < B := by omega
      simp [this, hb, absB, hn, absO, show hi ≤ lo from hf]
    · rw [if_neg hba, Below.heap_setCell _ _ _ _ hba]

theorem push_absW (hB : B ≤ w.heap.size) (c : Array Value) (e : TypeId) :
    absW B { w with heap := w.heap.push (.cells c e) } = (absW B w).push c.toList := by
  apply Hp.ext'
  · simp [absW, Hp.push]
  · intro b
    simp only [absW, Hp.push, Array.getElem?_push]
    by_cases hb : b = w.heap.size
    · subst hb
      have : ¬ w.heap.size < B := by omega
      simp [absB, this, absO]
    · simp [hb]

theorem pushMap_absW (hB : B ≤ w.heap.size) :
    absW B { w with heap := w.heap.push (.map #[] 0) } = (absW B w).pushMap := by
  apply Hp.ext'
  · simp [absW, Hp.pushMap]
  · intro b
    simp only [absW, Hp.pushMap, Array.getElem?_push]
    by_cases hb : b = w.heap.size
    · subst hb
      have : ¬ w.heap.size < B := by omega
      simp [absB, this, absO]
    · simp [hb]

theorem pushB_absW (hB : B ≤ w.heap.size) (o : Obj) : absW B (w.alloc o) = (absW B w).pushB (absO o) := by
  apply Hp.ext'
  · simp [absW, Hp.pushB]
  · intro b
    show ((w.heap.push o)[b]?).bind (absB B b) = _
    simp only [absW, Hp.pushB, Array.getElem?_push]
    by_cases hb : b = w.heap.size
    · subst hb
      have : ¬ w.heap.size < B := by omega
      simp [absB, this]
    · simp [hb]

theorem upd_absW {l : Nat} (hB : B ≤ l) (hl : l < w.heap.size) (o : Obj) : absW B { w with heap := w.heap.setIfInBounds l o } = (absW B w).upd l (absO o) := by
  apply Hp.ext'
  · simp [absW, Hp.upd]
  · intro b
    simp only [absW, Hp.upd]
    by_cases hb : b = l
    · subst hb
      have : ¬ b < B := by omega
      simp [absB, this, hl]
    · rw [if_neg hb, Array.getElem?_setIfInBounds_ne (Ne.symm hb)]

theorem absW_drewN (n : Nat) : absW B { w with drawn := n } = absW B w := rfl

end
end Go.Hx
