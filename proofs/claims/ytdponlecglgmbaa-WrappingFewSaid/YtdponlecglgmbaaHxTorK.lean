/- The law about few edges and all of them. No condition. -/
import Derived.Test.YtdponlecglgmbaaHxTorJ
namespace Go.Hx
set_option linter.unusedSimpArgs false
set_option linter.unusedVariables false

theorem cntB_none (n : Nat) : (cntB n fun _ => false) = 0 := by
  induction n with
  | zero => rfl
  | succ n ih => rw [cntB_succ, ih]; rfl

theorem cntB_or_le (n : Nat) (p q : Nat → Bool) : (cntB n fun i => p i || q i) ≤ cntB n p + cntB n q := by
  induction n with
  | zero => exact Nat.le_refl _
  | succ n ih =>
    rw [cntB_succ, cntB_succ, cntB_succ]
    cases p n <;> cases q n <;> simp <;> omega

theorem cntB_eq_le (n c : Nat) : (cntB n fun i => c == i) ≤ 1 := by
  rcases Nat.lt_or_ge c n with h | h
  · rw [cntB_congr (q := fun i => i == c) fun i _ => by rw [Bool.eq_iff_iff]; simp; exact eq_comm, cntB_one h]; exact Nat.le_refl _
  · rw [cntB_congr (q := fun _ => false) fun i hi => by show (c == i) = false; rw [beq_eq_false_iff_ne]; omega, cntB_none]
    omega

/-- Some number is not met. -/
theorem not_met (g : Nat → Option Nat) : ∀ (F : List Nat) (n : Nat), F.length < n → ∃ c, c < n ∧ ∀ e ∈ F, g e ≠ some c := by
  intro F n hF
  have key : ∀ F : List Nat, (cntB n fun c => F.any fun e => g e == some c) ≤ F.length := by
    intro F
    induction F with
    | nil => show (cntB n fun _ => false) ≤ 0; rw [cntB_none]; omega
    | cons e F ih =>
      have h1 := cntB_or_le n (fun c => g e == some c) (fun c => F.any fun e => g e == some c)
      have h2 : (cntB n fun c => g e == some c) ≤ 1 := by
        cases hg : g e with
        | none => show (cntB n fun _ => false) ≤ 1; rw [cntB_none]; omega
        | some d =>
          rw [cntB_congr (q := fun c => d == c) fun i hi => (rfl : (some d == some i) = (d == i))]
          exact cntB_eq_le n d
      rw [cntB_congr (q := fun i => (g e == some i) || F.any fun e => g e == some i) fun i hi => by rw [List.any_cons]]
      simp only [List.length_cons]; omega
  refine Classical.byContradiction fun hh => ?_
  have h3 := key F
  rw [cntB_congr (q := fun _ => true) fun c hc => ?_, cntB_all] at h3
  · omega
  · refine Classical.byContradiction fun k => hh ⟨c, hc, fun e he hge => k ?_⟩
    rw [List.any_eq_true]
    exact ⟨e, he, by rw [hge]; simp⟩

theorem few_x {w t : Nat} {E F : List Nat} (hw : 1 ≤ w) (hEF : ∀ e, e ∈ E → e ∈ F) (hF : F.length < w) (v : Nat) : ¬ WrapC (eR w t E) v false := by
  obtain ⟨c, hc, hm⟩ := not_met (fun e => if e % 2 = 0 then some (e / 2 % w) else none) F w hF
  refine nw (fun v => -((if v % w ≤ c then v % w + w - 1 - c else v % w - 1 - c : Nat) : Int)) (fun e he => ?_) v
  have h1 := hm e (hEF e he)
  have h2 : e / 2 % w < w := Nat.mod_lt _ hw
  by_cases hD : e % 2 = 0
  · rw [if_pos hD] at h1
    have h1 : e / 2 % w ≠ c := fun q => h1 (by rw [q])
    have e1 : toV w t (e / 2) (e % 2) % w = (e / 2 % w + 1) % w := by
      unfold toV
      rw [if_pos hD, Nat.mul_comm, Nat.mul_add_mod, Nat.mod_mod]
    simp only [e1]
    simp only [pr, stX, hD, if_true]
    generalize e / 2 % w = d at *
    by_cases q : d + 1 = w
    · rw [q, Nat.mod_self]
      split <;> split <;> omega
    · rw [Nat.mod_eq_of_lt (by omega)]
      split <;> split <;> omega
  · have e1 : toV w t (e / 2) (e % 2) % w = e / 2 % w := by
      unfold toV
      rw [if_neg hD, Nat.mul_comm, Nat.mul_add_mod, Nat.mod_mod]
    simp only [e1]
    simp only [pr, stX, hD, if_false]
    omega

theorem few_y {w t : Nat} {E F : List Nat} (hw : 1 ≤ w) (ht : 1 ≤ t) (hE : ∀ e ∈ E, e < 2 * (w * t)) (hEF : ∀ e, e ∈ E → e ∈ F) (hF : F.length < t) (v : Nat) : ¬ WrapC (eR w t E) v true := by
  obtain ⟨c, hc, hm⟩ := not_met (fun e => if e % 2 = 1 then some (e / 2 / w) else none) F t hF
  refine nw (fun v => -((if v / w ≤ c then v / w + t - 1 - c else v / w - 1 - c : Nat) : Int)) (fun e he => ?_) v
  have h1 := hm e (hEF e he)
  have h2 : e / 2 / w < t := div_lt' hw (by have := hE e he; omega)
  have h3 : e / 2 % w < w := Nat.mod_lt _ hw
  by_cases hD : e % 2 = 1
  · rw [if_pos hD] at h1
    have h1 : e / 2 / w ≠ c := fun q => h1 (by rw [q])
    have e1 : toV w t (e / 2) (e % 2) / w = (e / 2 / w + 1) % t := by
      unfold toV
      rw [if_neg (by omega), Nat.mul_comm, Nat.mul_add_div hw, Nat.div_eq_of_lt h3, Nat.add_zero]
    simp only [e1]
    simp only [pr, stY, hD, if_false, show ¬ (1 : Nat) = 0 by omega]
    generalize e / 2 / w = d at *
    by_cases q : d + 1 = t
    · rw [q, Nat.mod_self]
      split <;> split <;> omega
    · rw [Nat.mod_eq_of_lt (by omega)]
      split <;> split <;> omega
  · have hD0 : e % 2 = 0 := by omega
    have e1 : toV w t (e / 2) (e % 2) / w = e / 2 / w := by
      unfold toV
      rw [if_pos hD0, Nat.mul_comm, Nat.mul_add_div hw, Nat.div_eq_of_lt (Nat.mod_lt _ hw), Nat.add_zero]
    simp only [e1]
    simp only [pr, stY, hD0, if_true]
    omega

/-- All edges. -/
theorem full_row {w t : Nat} {E : List Nat} (hE : ∀ e, e < 2 * (w * t) → e ∈ E) (hw : 1 ≤ w) (ht : 1 ≤ t) : ∀ X, X < w → Wk (eR w t E) 0 X X 0
  | 0, _ => .refl 0
  | X + 1, h => by
    have ih := full_row hE hw ht X (by omega)
    have hn : w ≤ w * t := Nat.le_mul_of_pos_right _ ht
    have e := eR_mem (w := w) (t := t) (E := E) (2 * X) (hE _ (by omega))
    have e1 : toV w t (2 * X / 2) (2 * X % 2) = X + 1 := by
      unfold toV
      rw [show 2 * X / 2 = X by omega, show 2 * X % 2 = 0 by omega, if_pos rfl, Nat.div_eq_of_lt (by omega), Nat.mod_eq_of_lt (show X < w by omega), Nat.mod_eq_of_lt h]; omega
    rw [e1, show 2 * X / 2 = X by omega, show 2 * X % 2 = 0 by omega] at e
    exact (ih.fwd e).cast (by simp [stX]) (by simp [stY])

theorem full_wx {w t : Nat} {E : List Nat} (hE : ∀ e, e < 2 * (w * t) → e ∈ E) (hw : 1 ≤ w) (ht : 1 ≤ t) : WrapC (eR w t E) 0 false := by
  have hn : w ≤ w * t := Nat.le_mul_of_pos_right _ ht
  have h := full_row hE hw ht (w - 1) (by omega)
  have e := eR_mem (w := w) (t := t) (E := E) (2 * (w - 1)) (hE _ (by omega))
  have e1 : toV w t (2 * (w - 1) / 2) (2 * (w - 1) % 2) = 0 := by
    unfold toV
    rw [show 2 * (w - 1) / 2 = w - 1 by omega, show 2 * (w - 1) % 2 = 0 by omega, if_pos rfl, Nat.div_eq_of_lt (by omega), Nat.mod_eq_of_lt (show w - 1 < w by omega), show w - 1 + 1 = w by omega, Nat.mod_self]; omega
  rw [e1, show 2 * (w - 1) / 2 = w - 1 by omega, show 2 * (w - 1) % 2 = 0 by omega] at e
  refine ⟨_, _, h.fwd e, ?_⟩
  simp [pr, stX]; omega

theorem full_col {w t : Nat} {E : List Nat} (hE : ∀ e, e < 2 * (w * t) → e ∈ E) (hw : 1 ≤ w) (ht : 1 ≤ t) : ∀ Y, Y < t → Wk (eR w t E) 0 (Y * w) 0 Y
  | 0, _ => by rw [Nat.zero_mul]; exact .refl 0
  | Y + 1, h => by
    have ih := full_col hE hw ht Y (by omega)
    have hl := vtx_lt (w := w) (t := t) (X := 0) (Y := Y) (by omega) (by omega)
    have e := eR_mem (w := w) (t := t) (E := E) (2 * (Y * w) + 1) (hE _ (by omega))
    have e1 : toV w t ((2 * (Y * w) + 1) / 2) ((2 * (Y * w) + 1) % 2) = (Y + 1) * w := by
      unfold toV
      rw [show (2 * (Y * w) + 1) / 2 = Y * w by omega, show (2 * (Y * w) + 1) % 2 = 1 by omega, if_neg (by omega), Nat.mul_div_cancel _ (by omega), Nat.mul_mod_left, Nat.mod_eq_of_lt h, Nat.add_zero]
    rw [e1, show (2 * (Y * w) + 1) / 2 = Y * w by omega, show (2 * (Y * w) + 1) % 2 = 1 by omega] at e
    exact (ih.fwd e).cast (by simp [stX]) (by simp [stY])

theorem full_wy {w t : Nat} {E : List Nat} (hE : ∀ e, e < 2 * (w * t) → e ∈ E) (hw : 1 ≤ w) (ht : 1 ≤ t) : WrapC (eR w t E) 0 true := by
  have h := full_col hE hw ht (t - 1) (by omega)
  have hl := vtx_lt (w := w) (t := t) (X := 0) (Y := t - 1) (by omega) (by omega)
  have e := eR_mem (w := w) (t := t) (E := E) (2 * ((t - 1) * w) + 1) (hE _ (by omega))
  have e1 : toV w t ((2 * ((t - 1) * w) + 1) / 2) ((2 * ((t - 1) * w) + 1) % 2) = 0 := by
    unfold toV
    rw [show (2 * ((t - 1) * w) + 1) / 2 = (t - 1) * w by omega, show (2 * ((t - 1) * w) + 1) % 2 = 1 by omega, if_neg (by omega), Nat.mul_div_cancel _ (by omega), Nat.mul_mod_left, show t - 1 + 1 = t by omega, Nat.mod_self]; omega
  rw [e1, show (2 * ((t - 1) * w) + 1) / 2 = (t - 1) * w by omega, show (2 * ((t - 1) * w) + 1) % 2 = 1 by omega] at e
  refine ⟨_, _, h.fwd e, ?_⟩
  simp [pr, stY]; omega

theorem full_conn {w t : Nat} {E : List Nat} (hE : ∀ e, e < 2 * (w * t) → e ∈ E) (hw : 1 ≤ w) (ht : 1 ≤ t) {v : Nat} (hv : v < w * t) : Conn (eR w t E) 0 v := by
  have hY := div_lt' hw hv
  have hX : v % w < w := Nat.mod_lt _ hw
  have key : ∀ X, X < w → Conn (eR w t E) 0 (v / w * w + X) := by
    intro X
    induction X with
    | zero => intro _; exact ⟨_, _, full_col hE hw ht _ hY⟩
    | succ X ih =>
      intro h
      have ih := ih (by omega)
      have hl := vtx_lt (w := w) (t := t) (X := X) (Y := v / w) (by omega) hY
      have e := eR_mem (w := w) (t := t) (E := E) (2 * (v / w * w + X)) (hE _ (by omega))
      have e1 : toV w t (2 * (v / w * w + X) / 2) (2 * (v / w * w + X) % 2) = v / w * w + (X + 1) := by
        unfold toV
        rw [show 2 * (v / w * w + X) / 2 = v / w * w + X by omega, show 2 * (v / w * w + X) % 2 = 0 by omega, if_pos rfl, vtx_div (by omega), vtx_mod (by omega), Nat.mod_eq_of_lt h]
      rw [e1, show 2 * (v / w * w + X) / 2 = v / w * w + X by omega] at e
      exact ih.trans (Conn.one e)
  have := key _ hX
  rw [Nat.mul_comm, Nat.div_add_mod] at this
  exact this

theorem full_one {w t : Nat} {E : List Nat} (hE : ∀ e, e < 2 * (w * t) → e ∈ E) (hw : 1 ≤ w) (ht : 1 ≤ t) : compN (w * t) (eR w t E) = 1 := by
  have hn : 1 ≤ w * t := Nat.mul_le_mul hw ht
  rw [compN_lab (fun _ => 0) (fun a b ha hb => ⟨fun _ => rfl, fun _ => (full_conn hE hw ht ha).symm.trans (full_conn hE hw ht hb)⟩) (fun _ _ => Nat.zero_le _) (fun _ _ => rfl)]
  rw [cntB_congr (q := fun i => i == 0) fun i _ => by rw [Bool.eq_iff_iff]; simp; exact eq_comm, cntB_one hn]

/-- The first ones of a list. -/
theorem Lst.pre {h : Hp} {s : Sl} {M : List Nat} {B : Nat} (l : Lst h 1 s (ints (nats M)) B) {m c : Nat} (hm : m ≤ M.length) :
    Rd h 1 ⟨if (Int.ofNat s.c) = 0 then s.a else Option.map (fun q => q.add (Int.toNat 0 * 1)) s.a, m, c⟩ (ints (nats (M.take m))) := by
  have ea : (if (Int.ofNat s.c) = 0 then s.a else Option.map (fun q => q.add (Int.toNat 0 * 1)) s.a) = s.a := by
    split
    · rfl
    · cases s.a <;> simp [Addr.add]
  rw [ea]
  obtain ⟨h1, h2, ⟨rfl, h3⟩ | ⟨b, sp, ha, hB, hb, hc, hs⟩⟩ := l
  · have : M = [] := by cases M with
      | nil => rfl
      | cons a M => simp [ints, nats] at h3
    subst this
    simp at hm; subst hm
    exact ⟨rfl, fun a ha => by cases ha⟩
  · refine ⟨?_, fun x hx _ => by simp only at hx; rw [ha] at hx; cases hx; exact hb⟩
    simp only [ha]
    rw [seg_row (row_own hc) (by rw [List.length_append, ints_len, nats_len]; omega)]
    congr 1
    simp only [List.drop_zero, Nat.mul_one, ints, nats, List.map_take]
    rw [List.take_append_of_le_length (by simp; omega)]

theorem ordE_take {M : List Nat} {k e : Nat} (hk : k ≤ M.length) : e ∈ ordE (nats M) k ↔ e ∈ M.take k := by
  rw [ordE_mem]
  constructor
  · rintro ⟨i, hi, q⟩
    rw [nats_getD] at q
    have q : M.getD i 0 = e := q
    rw [← q, List.getD, List.getElem?_eq_getElem (by omega)]
    exact List.mem_take_iff_getElem.2 ⟨i, by omega, rfl⟩
  · intro q
    obtain ⟨i, hi, q⟩ := List.mem_take_iff_getElem.1 q
    refine ⟨i, by omega, ?_⟩
    rw [nats_getD, List.getD, List.getElem?_eq_getElem (by omega)]
    exact q

theorem okOrd_nats {n : Nat} {M : List Nat} (h : ∀ e ∈ M, e < 2 * n) (hd : M.Nodup) : okOrd n (nats M) := by
  constructor
  · intro i hi
    rw [nats_len] at hi
    rw [nats_getD, List.getD, List.getElem?_eq_getElem hi]
    have := h _ (List.getElem_mem hi)
    simp only [Option.getD_some]; omega
  · intro i j hij hj
    rw [nats_len] at hj
    rw [nats_getD, nats_getD, List.getD, List.getD, List.getElem?_eq_getElem (show i < M.length by omega), List.getElem?_eq_getElem hj]
    simp only [Option.getD_some]
    intro q
    have := (List.nodup_iff_pairwise_ne.1 hd)
    exact (List.pairwise_iff_getElem.1 this) i j (by omega) hj hij (Int.ofNat.inj q)

end Go.Hx
