/- The conditions on operations that only read are sound for the model's run. No condition. -/
import Derived.Test.YthohhnnjpaepnaaHxSem
import Derived.Laws.Cells
import Derived.Laws.IdiomCopy
namespace Go.Hx
set_option linter.unusedSimpArgs false
set_option linter.unusedVariables false
open Go.RowKit

/-! ### Frames -/

def Ref (e : Env) (t : Array Value) : Prop := e.length = t.size ∧ ∀ i v, e.get i = some v → t[i]? = some v

theorem Env.get_eq (e : Env) (i : Nat) : e.get i = (e[i]?).join := by
  induction e generalizing i with
  | nil => simp [Env.get]
  | cons x r ih => cases i with
    | zero => simp [Env.get]
    | succ n => simp [Env.get, ih]

theorem Env.length_put (e : Env) (d : Option Tmp) (v : Value) : (e.put d v).length = e.length := by
  cases d <;> simp [Env.put]

theorem Env.get_put (e : Env) (d : Tmp) (v : Value) (i : Nat) : (e.put (some d) v).get i = if i = d ∧ d < e.length then some v else e.get i := by
  simp only [Env.put, Env.get_eq, List.getElem?_set]
  by_cases h : d = i
  · subst h
    by_cases h2 : d < e.length
    · simp [h2]
    · simp [h2]
  · have : ¬ i = d := fun x => h x.symm
    simp [h, this]

theorem Ref.put {e : Env} {a : Act} (h : Ref e a.tmps) (d : Option Tmp) (v : Value) : Ref (e.put d v) (a.put d v).tmps := by
  refine ⟨?_, fun i u hu => ?_⟩
  · rw [Env.length_put]; cases d <;> simp [Act.put, h.1]
  · cases d with
    | none => exact h.2 i u hu
    | some d =>
      rw [Env.get_put] at hu
      simp only [Act.put, Array.getElem?_setIfInBounds]
      by_cases hid : i = d ∧ d < e.length
      · rw [if_pos hid] at hu
        obtain ⟨rfl, hl⟩ := hid
        rw [h.1] at hl
        simp [hl]; exact Option.some.inj hu
      · rw [if_neg hid] at hu
        have := h.2 i u hu
        by_cases hdi : d = i
        · subst hdi
          have hl : d < a.tmps.size := (Array.getElem?_eq_some_iff.1 this).1
          exact absurd ⟨rfl, by rw [h.1]; exact hl⟩ hid
        · simp [hdi, this]

/-- Putting what is there already. -/
theorem Ref.same {e : Env} {t : Array Value} (h : Ref e t) {d : Tmp} {v : Value} (hv : e.get d = some v) : Ref (e.put (some d) v) t := by
  refine ⟨by rw [Env.length_put]; exact h.1, fun i u hu => ?_⟩
  rw [Env.get_put] at hu
  by_cases hid : i = d ∧ d < e.length
  · rw [if_pos hid] at hu; obtain ⟨rfl, _⟩ := hid; exact h.2 i u (hv.trans hu)
  · rw [if_neg hid] at hu; exact h.2 i u hu

theorem Ref.eval {e : Env} {a : Act} (h : Ref e a.tmps) (x : Operand) (v : Value) (hv : xev e x = some v) : a.eval x = v := by
  cases x with
  | tmp t => have := h.2 t v hv; simp [Act.eval, this]
  | const c => simpa [xev, Act.eval] using hv
  | global g => simpa [xev, Act.eval] using hv
  | func f => simpa [xev, Act.eval] using hv

section
variable {ev : Operand → Option Value} {ρ : Operand → Value}

theorem xevs_ok (hr : ∀ x v, ev x = some v → ρ x = v) : ∀ (l : List Operand) (vs : List Value), xevs ev l = some vs → l.map ρ = vs
  | [], vs, h => by simp [xevs] at h; simp [h]
  | x :: r, vs, h => by
    simp only [xevs] at h
    cases hx : ev x with
    | none => simp [hx] at h
    | some v => cases hs : xevs ev r with
      | none => simp [hx, hs] at h
      | some us =>
        simp only [hx, hs, Option.some.injEq] at h
        subst h
        simp [hr x v hx, xevs_ok hr r us hs]

theorem xevs_arr (hr : ∀ x v, ev x = some v → ρ x = v) (l : Array Operand) (vs : List Value) (h : xevs ev l.toList = some vs) : l.map ρ = vs.toArray := by
  have := xevs_ok hr _ _ h
  apply Array.ext'
  simpa using this

theorem xevp_ok (hr : ∀ x v, ev x = some v → ρ x = v) : ∀ (l : List (Nat × Operand)) (vs : List (Nat × Value)), xevp ev l = some vs → l.map (fun p => (p.1, ρ p.2)) = vs
  | [], vs, h => by simp [xevp] at h; simp [h]
  | (i, x) :: r, vs, h => by
    simp only [xevp] at h
    cases hx : ev x with
    | none => simp [hx] at h
    | some v => cases hs : xevp ev r with
      | none => simp [hx, hs] at h
      | some us =>
        simp only [hx, hs, Option.some.injEq] at h
        subst h
        simp [hr x v hx, xevp_ok hr r us hs]
end

/-! ### Loads -/

/-- From an address on these cells lie. -/
def Lies (w : World) (a : Addr) (vs : List Value) : Prop := ∀ i u, vs[i]? = some u → w.cell? (a.add i) = some u
def LiesH (h : Hp) (a : Addr) (vs : List Value) : Prop := ∀ i u, vs[i]? = some u → h.cell (a.add i) = some u

theorem LiesH.abs {B : Nat} {w : World} {a : Addr} {vs : List Value} (h : LiesH (absW B w) a vs) : Lies w a vs := fun i u hu => cell_absW (h i u hu)

theorem Addr.add_zero (a : Addr) : a.add 0 = a := by simp [Addr.add]
theorem Addr.add_add (a : Addr) (m n : Nat) : (a.add m).add n = a.add (m + n) := by
  unfold Addr.add
  by_cases hm : m = 0
  · simp [hm]
  · by_cases hn : n = 0
    · simp [hm, hn]
    · have : m + n ≠ 0 := by omega
      simp [hm, hn, Nat.add_assoc]

theorem ld1_ok {h : Hp} {a : Addr} {l : LK} {K : Value → Prop} (hk : ld1 h a l K) : ∃ v, K v ∧ h.cell a = some v ∧ v.cells = #[v] := by
  cases l with
  | bool => obtain ⟨b, hb, hK⟩ := hk; exact ⟨_, hK, hb, rfl⟩
  | int k => obtain ⟨b, hb, hK⟩ := hk; exact ⟨_, hK, hb, rfl⟩
  | ptr => obtain ⟨b, hb, hK⟩ := hk; exact ⟨_, hK, hb, rfl⟩
  | slice => obtain ⟨b, hb, hK⟩ := hk; exact ⟨_, hK, hb, rfl⟩
  | map => obtain ⟨b, hb, hK⟩ := hk; exact ⟨_, hK, hb, rfl⟩
  | any => obtain ⟨b, hb, h1, hK⟩ := hk; exact ⟨_, hK, hb, by cases b <;> simp_all [Value.cells, Value.oneCell]⟩
  | adr => exact hk.elim

theorem xloads_ok {h : Hp} {a : Addr} : ∀ (ls : List LK) (i : Nat) (K : List Value → Prop), xloads h a ls i K →
    ∃ vs, K vs ∧ vs.length = ls.length ∧ ∀ j u, vs[j]? = some u → h.cell (a.add (i + j)) = some u
  | [], i, K, hk => ⟨[], hk, rfl, by simp⟩
  | l :: r, i, K, hk => by
    obtain ⟨v, h2, hv, _⟩ := ld1_ok hk
    obtain ⟨vs, hK, hl, hc⟩ := xloads_ok r (i + 1) _ h2
    refine ⟨v :: vs, hK, by simp [hl], fun j u hu => ?_⟩
    cases j with
    | zero => simp at hu; subst hu; simpa using hv
    | succ j =>
      have := hc j u (by simpa using hu)
      rw [show i + (j + 1) = i + 1 + j by omega]; exact this

end Go.Hx
