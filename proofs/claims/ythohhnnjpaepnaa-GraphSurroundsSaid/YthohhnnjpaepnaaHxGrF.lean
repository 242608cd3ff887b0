/- Lists of edges under construction. No condition. -/
import Derived.Test.YthohhnnjpaepnaaHxGrA
namespace Go.Hx
set_option linter.unusedSimpArgs false
set_option linter.unusedVariables false

/-- Edges of weight 0, three numbers each. -/
def fl3 (Q : List (Nat × Nat)) : List Int := Q.flatMap fun q => [(q.1 : Int), (q.2 : Int), 0]

theorem fl3_len (Q : List (Nat × Nat)) : (fl3 Q).length = Q.length * 3 := by
  induction Q with
  | nil => rfl
  | cons q Q ih => simp only [fl3, List.flatMap_cons, List.length_append, List.length_cons, List.length_nil] at *; omega
theorem fl3_app (Q Q' : List (Nat × Nat)) : fl3 (Q ++ Q') = fl3 Q ++ fl3 Q' := by simp [fl3]

theorem fl3_get {Q : List (Nat × Nat)} {i : Nat} (hi : i < Q.length) : (fl3 Q).getD (i * 3 + 0) 0 = ((Q[i].1 : Nat) : Int) ∧ (fl3 Q).getD (i * 3 + 1) 0 = ((Q[i].2 : Nat) : Int) := by
  induction Q generalizing i with
  | nil => simp at hi
  | cons q Q ih =>
    have e : fl3 (q :: Q) = [(q.1 : Int), (q.2 : Int), 0] ++ fl3 Q := rfl
    cases i with
    | zero => rw [e]; exact ⟨rfl, rfl⟩
    | succ i =>
      have := ih (i := i) (by simpa using hi)
      rw [e]
      simp only [List.getD, List.getElem_cons_succ] at *
      rw [List.getElem?_append_right (by simp; omega), List.getElem?_append_right (by simp; omega)]
      simpa [show (i + 1) * 3 - 3 = i * 3 by omega, show (i + 1) * 3 + 1 - 3 = i * 3 + 1 by omega] using this

theorem fl3_eP (Q : List (Nat × Nat)) (u v : Nat) : eP (fl3 Q) Q.length u v ↔ (u, v) ∈ Q := by
  constructor
  · rintro ⟨i, hi, rfl, rfl⟩
    obtain ⟨h1, h2⟩ := fl3_get hi
    unfold eU eV
    rw [h1, h2]
    exact List.getElem_mem hi
  · intro h
    obtain ⟨i, hi, e⟩ := List.getElem_of_mem h
    obtain ⟨h1, h2⟩ := fl3_get hi
    refine ⟨i, hi, ?_, ?_⟩
    · unfold eU; rw [h1, e]; rfl
    · unfold eV; rw [h2, e]; rfl

theorem fl3_ok {Q : List (Nat × Nat)} {n : Nat} (h : ∀ u v, (u, v) ∈ Q → u < n ∧ v < n ∧ u ≠ v) (hn : n ≤ 4096) (hq : Q.length ≤ 16384) : GOk (n : Int) Q.length (fl3 Q) := by
  refine ⟨by omega, by omega, hq, fun i hi => ?_⟩
  obtain ⟨h1, h2⟩ := fl3_get hi
  obtain ⟨a, b, c⟩ := h Q[i].1 Q[i].2 (List.getElem_mem hi)
  unfold okE
  rw [h1, h2]
  omega

/-- Some edges more, from a row that is made for it. -/
theorem app3_spec {h : Hp} {s : Sl} {Q : List (Nat × Nat)} {B : Nat} (Q' : List (Nat × Nat)) {K : Sl → Hp → Prop} (hl : Lst h 3 s (ints (fl3 Q)) B) (hB : B ≤ h.size) (hn : s.n < 2 ^ 30) (hq : Q'.length < 2 ^ 30)
    (H : ∀ s' h', Lst h' 3 s' (ints (fl3 (Q ++ Q'))) B → h.size ≤ h'.size → (∀ c, c < h.size → nb s c → h'.blk c = h.blk c ∧ nb s' c) → K s' h') :
    alo h (ints (fl3 Q')) fun a8 h9 => app 3 24 [.int .i64 0, .int .i64 0, .int .i64 0] ⟨s.a, s.n, s.c⟩ ⟨some a8, Q'.length, Q'.length⟩ h9 fun s10 h11 => K s10 h11 := by
  refine alo_of fun h9 z9 b9 k9 => ?_
  have f9 : Fr h.size h h9 := ⟨by omega, k9⟩
  refine app_lst (hl.fr f9).eta (by omega) (news := ints (fl3 Q')) (by rw [seg_row (row_own b9) (by rw [ints_len, fl3_len]; simp only; omega)]; simp only [List.drop_zero]; rw [List.take_of_length_le (by rw [ints_len, fl3_len]; omega)]) (ints_one _) rfl (by simp only; omega) (by simp only; omega) fun s' h' hl' _ hz fr ho ha => ?_
  refine H s' h' (by rw [fl3_app, ints_app]; exact hl') (by omega) fun c hc hnb => ⟨by rw [ho c (by omega) hnb, k9 c hc], fun x hx => ?_⟩
  rcases ha with ha | ha
  · rw [ha] at hx; exact hnb x hx
  · rw [ha] at hx; cases hx; simp only; omega

theorem Lst.fl3n {h : Hp} {s : Sl} {Q : List (Nat × Nat)} {B : Nat} (hl : Lst h 3 s (ints (fl3 Q)) B) : s.n = Q.length := by
  have := hl.1; rw [ints_len, fl3_len] at this; omega

end Go.Hx
