/- Link-cut forests: connected vertices are on one way from a root. Plain; no program. No condition. -/
import Derived.Test.YtjpmgekdgpkcfaaHxLctL
import Derived.Test.YtjpmgekdgpkcfaaHxGrT
namespace Go.Hx
set_option linter.unusedSimpArgs false
set_option linter.unusedVariables false

theorem Anc_Ed {pa : Nat → Int} {u p q : Nat} (hu : pa u = -1) (e : pa p = (q : Int)) : Anc pa p u ↔ Anc pa q u := by
  constructor
  · intro h
    cases h with
    | refl => omega
    | up e2 k =>
      rw [e] at e2
      have := Int.ofNat.inj e2
      subst this
      exact k
  · exact .up e

theorem Cn_Anc {pa : Nat → Int} {u v : Nat} (hu : pa u = -1) (c : Cn (Ed pa) u v) : Anc pa v u := by
  refine (c.const (fun w => Anc pa w u) fun p q e => ?_).1 (.refl u)
  rcases e with e | e
  · exact Anc_Ed hu e
  · exact (Anc_Ed hu e).symm

/-- Connected with a root: it is on the way. -/
theorem LF.conn {n : Nat} {N : NN} {pa : Nat → Int} {T : Tr} {G : List (Tr × Int)} (d : LF n N pa ((T, -1) :: G)) {u v : Nat} (hu : pa u = -1) (hv : v ∈ T.seq) (c : Cn (Ed pa) u v) : u ∈ T.seq :=
  Anc_in (d.pc _ (List.mem_cons_self ..)) (Cn_Anc hu c) hv

theorem chn_Cn {pa : Nat → Int} {p : Int} {x : Nat} {xs : List Nat} (c : chn pa p (x :: xs)) {w : Nat} (hw : w ∈ x :: xs) : Cn (Ed pa) x w := by
  induction xs generalizing p x with
  | nil => simp at hw; subst hw; exact .refl _
  | cons y ys ih =>
    rcases List.mem_cons.1 hw with rfl | hw
    · exact .refl _
    · have e : Ed pa x y := .inr c.2.1
      exact (Cn.one e).trans (ih c.2 hw)

/-- What is on one way is connected. -/
theorem LF.Cn {n : Nat} {N : NN} {pa : Nat → Int} {T : Tr} {pp : Int} {G : List (Tr × Int)} (d : LF n N pa ((T, pp) :: G)) {u v : Nat} (hu : u ∈ T.seq) (hv : v ∈ T.seq) : Go.Hx.Cn (Ed pa) u v := by
  have c := d.pc _ (List.mem_cons_self ..)
  simp only at c
  cases hq : T.seq with
  | nil => rw [hq] at hu; cases hu
  | cons x xs =>
    rw [hq] at c hu hv
    exact (chn_Cn c hu).symm.trans (chn_Cn c hv)

theorem Cn_congr {P Q : Nat → Nat → Prop} (h : ∀ p q, P p q ↔ Q p q) (u v : Nat) : Cn P u v ↔ Cn Q u v := ⟨fun c => c.mono fun p q => (h p q).1, fun c => c.mono fun p q => (h p q).2⟩

end Go.Hx
