/- The chapter's example of graphs. No condition. -/
import Derived.Test.YthohhnnjpaepnaaHxGrM
import Derived.Test.YthohhnnjpaepnaaHxGrW
import Derived.Test.YthohhnnjpaepnaaHxGrI
import Derived.Test.YthohhnnjpaepnaaHxGrJ
namespace Go.Hx
set_option linter.unusedSimpArgs false
set_option linter.unusedVariables false

theorem rd_row {h : Hp} {b n c z : Nat} {M : List Int} (hb : h.blk b = some (.cells (ints M))) (hs : b < h.size) (hn : M.length = n * z) : Rd h z ⟨some ⟨b, 0, none⟩, n, c⟩ (ints M) :=
  ⟨by simp only; rw [seg_row (row_own hb) (by rw [ints_len]; omega), List.drop_zero, List.take_of_length_le (by rw [ints_len]; omega)], fun a ha _ => by cases ha; exact hs⟩

def exM : List Int := [0, 1, 5, 1, 2, 3, 1, 0, -2]

theorem exP (u v : Nat) : eP exM 3 u v ↔ (u = 0 ∧ v = 1) ∨ (u = 1 ∧ v = 2) ∨ (u = 1 ∧ v = 0) := by
  rw [show (3 : Nat) = 0 + 1 + 1 + 1 from rfl, eP_succ, eP_succ, eP_succ, eP_zero]
  have e : (eU exM 0 = 0 ∧ eV exM 0 = 1) ∧ (eU exM (0 + 1) = 1 ∧ eV exM (0 + 1) = 2) ∧ (eU exM (0 + 1 + 1) = 1 ∧ eV exM (0 + 1 + 1) = 0) := by decide
  rw [e.1.1, e.1.2, e.2.1.1, e.2.1.2, e.2.2.1, e.2.2.2]
  constructor
  · rintro (((h | h) | h) | h)
    · exact h.elim
    · exact .inl h
    · exact .inr (.inl h)
    · exact .inr (.inr h)
  · rintro (h | h | h)
    · exact .inl (.inl (.inr h))
    · exact .inl (.inr h)
    · exact .inr h

theorem exLC : LC (eP exM 3) 4 [0, 0, 0, 3] := by
  refine ⟨rfl, by decide, fun v hv => ?_, fun u v h => ?_⟩
  · have c01 : Cn (eP exM 3) 1 0 := .one ((exP _ _).2 (.inr (.inr ⟨rfl, rfl⟩)))
    have c21 : Cn (eP exM 3) 2 1 := .back ((exP _ _).2 (.inr (.inl ⟨rfl, rfl⟩)))
    match v, hv with
    | 0, _ => exact .refl _
    | 1, _ => exact c01
    | 2, _ => exact c21.trans c01
    | 3, _ => exact .refl _
  · rcases (exP _ _).1 h with ⟨rfl, rfl⟩ | ⟨rfl, rfl⟩ | ⟨rfl, rfl⟩ <;> rfl

theorem exDis : Dis (eP exM 3) 4 2 [2, 1, 0, -1] := by
  refine ⟨rfl, by decide, rfl, by decide, fun w hw h => ?_, fun w hw h z hz a => ?_⟩
  · match w, hw with
    | 0, _ => exact ⟨1, by omega, .inl ((exP _ _).2 (.inr (.inr ⟨rfl, rfl⟩))), rfl⟩
    | 1, _ => exact ⟨2, by omega, .inr ((exP _ _).2 (.inr (.inl ⟨rfl, rfl⟩))), rfl⟩
    | 2, _ => exact absurd h (by decide)
    | 3, _ => exact absurd h (by decide)
  · have : (w = 0 ∧ z = 1) ∨ (w = 1 ∧ z = 2) ∨ (w = 1 ∧ z = 0) ∨ (w = 2 ∧ z = 1) := by
      rcases a with a | a <;> rcases (exP _ _).1 a with ⟨rfl, rfl⟩ | ⟨rfl, rfl⟩ | ⟨rfl, rfl⟩ <;> simp
    rcases this with ⟨rfl, rfl⟩ | ⟨rfl, rfl⟩ | ⟨rfl, rfl⟩ | ⟨rfl, rfl⟩ <;> decide

theorem exOk : GOk 4 3 exM := ⟨by omega, by omega, by omega, by unfold okE; decide⟩

theorem example_spec (h : Hp) (K : Sl → Hp → Prop) (hK : ∀ s h', s.n = 3 → Lst h' 3 s (ints exM) h.size → Fr h.size h h' → K s h') : g_law13_example h K := by
  unfold g_law13_example
  refine alo_of fun h2 z2 b2 k2 => hK _ _ rfl ?_ ⟨by omega, k2⟩
  exact ⟨by simp [exM, ints], Nat.le_refl _, .inr ⟨h.size, [], rfl, Nat.le_refl _, by omega, b2, rfl⟩⟩

theorem works13_spec (h : Hp) (K : Bool → Hp → Prop) (hK : ∀ h', Fr h.size h h' → K true h') : g_law13_works h K := by
  unfold g_law13_works
  refine example_spec h _ fun s h2 sn l2 f2 => gNew_spec 4 s exM h2 l2.rd _ (fun e h' _ ge => absurd (by rw [sn]; exact exOk) ge.not) fun N h3 o eN _ d lo f3 => ?_
  obtain rfl : N = 4 := by omega
  rw [sn] at d
  refine cnd_f rfl (cnd_f rfl ?_)
  refine gStrength_spec d (by unfold i64ok; decide) 1 _ fun h4 f4 => ?_
  have e1 : strA exM 4 3 1 = (6, 0) := by decide
  rw [e1]
  refine cnd_t rfl (cnd_t rfl (gDegree_spec (d.fr f4) 1 _ ?_))
  refine cnd_t (by decide) ?_
  have d4 := d.fr f4
  refine gDist_spec d4 2 _ (fun c => absurd (by omega) c) fun u s5 h5 W hu hu4 l5 di _ f5 => ?_
  obtain rfl : u = 2 := by omega
  obtain rfl := di.uniq exDis
  refine alo_of fun h6 z6 b6 k6 => ?_
  have f6 : Fr h5.size h5 h6 := ⟨by omega, k6⟩
  refine numbers_spec (q := [2, 1, 0, -1]) (l5.rd.fr f6) (rd_row b6 (by omega) rfl) (by simp) _ fun b hb => cnd_t (hb.2 rfl) ?_
  have f46 : Fr h4.size h4 h6 := ⟨by have := f5.size; omega, fun c hc => by rw [k6 _ (by have := f5.size; omega), f5.blk c hc]⟩
  refine gRow_spec (d4.fr f46) _ fun h7 L lc f7 => ?_
  obtain rfl := lc.uniq exLC
  refine cnd_t (by decide) ?_
  refine around_spec ((d4.fr f46).fr f7) 1 9 (by omega) _ fun s8 h8 P _ hP l8 f8 => ?_
  obtain rfl := hP 1 rfl (by omega)
  refine alo_of fun h9 z9 b9 k9 => ?_
  have f9 : Fr h8.size h8 h9 := ⟨by omega, k9⟩
  have e8 : fl2 hE (hV exM) (List.take (Int.toNat 9) (arH exM 3 1)) = [0, 0, 1, 2, 2, 0] := by decide
  rw [e8] at l8
  refine pairs_spec (q := [0, 0, 1, 2, 2, 0]) (l8.rd.fr f9) (rd_row b9 (by omega) rfl) (by simp) _ fun b hb => ?_
  rw [hb.2 rfl]
  have z2 := f2.size; have z3 := f3.size; have z4 := f4.size; have z5 := f5.size; have z7 := f7.size; have z8 := f8.size
  exact hK _ ⟨by omega, fun c hc => by rw [k9 _ (by omega), f8.blk _ (by omega), f7.blk _ (by omega), k6 _ (by omega), f5.blk _ (by omega), f4.blk _ (by omega), f3.blk _ (by omega), f2.blk _ hc]⟩

end Go.Hx
