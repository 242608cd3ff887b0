/- A queue in a row of the program's own. No condition. -/
import Derived.Test.YthohhnnjpaepnaaHxLib
namespace Go.Hx
set_option linter.unusedSimpArgs false
set_option linter.unusedVariables false

/-- A queue in a row of the program's own: what was taken, what is there, room. -/
structure Qu (h : Hp) (s : Sl) (cs : List Value) (B : Nat) : Prop where
  n : s.n = cs.length
  le : s.n ≤ s.c
  ex : ∃ b pre sp, s.a = some ⟨b, pre.length, none⟩ ∧ B ≤ b ∧ b < h.size ∧ h.blk b = some (.cells (pre ++ (cs ++ sp))) ∧ s.c ≤ (cs ++ sp).length

theorem Qu.pop {h : Hp} {s : Sl} {x : Value} {cs : List Value} {B : Nat} (q : Qu h s (x :: cs) B) : Qu h ⟨(if (Int.ofNat s.c) = 1 then s.a else Option.map (fun q => q.add (Int.toNat 1 * 1)) s.a), (Int.toNat ((Int.ofNat s.n) - 1)), (Int.toNat ((Int.ofNat s.c) - 1))⟩ cs B := by
  obtain ⟨h1, h2, b, pre, sp, ha, hB, hb, hc, hs⟩ := q
  simp only [List.length_cons, List.cons_append] at h1 hs
  refine ⟨by simp only [Int.ofNat_eq_natCast]; omega, by simp only [Int.ofNat_eq_natCast]; omega, ?_⟩
  by_cases e : (Int.ofNat s.c) = 1
  · have : cs = [] := List.eq_nil_of_length_eq_zero (by simp only [Int.ofNat_eq_natCast] at e; omega)
    subst this
    refine ⟨b, pre, x :: sp, by simp only [if_pos e]; exact ha, hB, hb, hc, ?_⟩
    simp only [Int.ofNat_eq_natCast] at e ⊢; omega
  · refine ⟨b, pre ++ [x], sp, ?_, hB, hb, by rw [hc]; simp, ?_⟩
    · simp only [if_neg e, ha, Option.map_some, add_mk, List.length_append]; rfl
    · simp only [Int.ofNat_eq_natCast]; omega

theorem Qu.keep {h h' : Hp} {s : Sl} {cs : List Value} {B : Nat} (q : Qu h s cs B) (hz : h.size ≤ h'.size) (hb : ∀ a, s.a = some a → h'.blk a.block = h.blk a.block) : Qu h' s cs B := by
  obtain ⟨h1, h2, b, pre, sp, ha, hB, hb', hc, hs⟩ := q
  exact ⟨h1, h2, b, pre, sp, ha, hB, by omega, (hb _ ha).trans hc, hs⟩
theorem Qu.blk_lt {h : Hp} {s : Sl} {cs : List Value} {B : Nat} (q : Qu h s cs B) {x : Addr} (hx : s.a = some x) : B ≤ x.block ∧ x.block < h.size := by
  obtain ⟨h1, h2, b, pre, sp, ha, hB, hb', hc, hs⟩ := q
  rw [ha] at hx; cases hx; exact ⟨hB, hb'⟩

theorem Qu.one {h : Hp} {b : Nat} {v : Value} {B : Nat} (hb : h.blk b = some (.cells [v])) (hB : B ≤ b) (hl : b < h.size) : Qu h ⟨some ⟨b, 0, none⟩, 1, 1⟩ [v] B :=
  ⟨rfl, Nat.le_refl _, b, [], [], rfl, hB, hl, hb, by simp⟩

theorem Qu.hd {h : Hp} {s : Sl} {x : Int} {cs : List Value} {B : Nat} (q : Qu h s (.int .i64 x :: cs) B) {K : Int → Prop} (hK : K x) : ix s.a s.n 0 fun a => ldI .i64 h (a.add (Int.toNat 0 * 1)) K := by
  obtain ⟨h1, h2, b, pre, sp, ha, hB, hb', hc, hs⟩ := q
  simp only [List.length_cons] at h1
  refine ⟨_, ha, by omega, by omega, ldI_of ?_ hK⟩
  rw [add_mk, cell_own hc]
  simp

theorem Qu.app1 {h : Hp} {s : Sl} {cs : List Value} {B : Nat} {v z : Value} {K : Sl → Hp → Prop} (q : Qu h s cs B) (hv : v.oneCell = true) (hB : B ≤ h.size) (hn : s.n < 2 ^ 40)
    (H : ∀ s' h', Qu h' s' (cs ++ [v]) B → h.size ≤ h'.size → (∀ c, c < h.size → nb s c → h'.blk c = h.blk c ∧ nb s' c) → K s' h') :
    alo h [v] fun a8 h9 => app 1 8 [z] ⟨s.a, s.n, s.c⟩ ⟨some a8, 1, 1⟩ h9 fun s10 h11 => K s10 h11 := by
  obtain ⟨h1, h2, b, pre, sp, ha, hlB, hb', hc, hs⟩ := q
  refine alo_of fun h9 z9 b9 k9 => ?_
  have hc9 : h9.blk b = some (.cells (pre ++ (cs ++ sp))) := (k9 b hb').trans hc
  have e1 : h9.seg s.a (s.n * 1) = some cs := by
    rw [ha, seg_row (row_own hc9) (by simp only [List.length_append]; omega), Nat.mul_one, h1]
    simp
  refine ⟨cs, [v], e1, by rw [seg_row (row_own b9) (by simp)]; rfl, by simpa using hv, fun hle => ⟨fun a hx => ?_, ?_⟩, fun hlt => ⟨by simp only; omega, by simp only; omega, fun cap hcap => ?_⟩⟩
  · simp only at hx hle
    rw [ha] at hx; cases hx
    refine ⟨rfl, fun _ => ⟨_, hc9, ?_⟩⟩
    simp only [List.length_append] at hs ⊢; omega
  · simp only at hle
    simp only [ha, add_mk]
    rw [List.length_append] at hs
    have hsp : 0 < sp.length := by omega
    obtain ⟨g1, g2, g3⟩ := setl_blk (h := h9) (o := pre.length + s.n * 1) [v] 0 hc9 (by simp only [List.length_append, List.length_cons, List.length_nil]; omega)
    have e : (pre ++ (cs ++ sp)).take (pre.length + s.n * 1 + 0) ++ [v] ++ (pre ++ (cs ++ sp)).drop (pre.length + s.n * 1 + 0 + [v].length) = pre ++ ((cs ++ [v]) ++ sp.drop 1) := by
      rw [h1]
      simp only [Nat.mul_one, Nat.add_zero, List.length_cons, List.length_nil, Nat.zero_add]
      rw [show pre ++ (cs ++ sp) = (pre ++ cs) ++ sp by simp, show pre.length + cs.length = (pre ++ cs).length by simp, List.take_left', List.drop_append]
      · simp
      · rfl
    rw [e] at g2
    refine H _ _ ⟨by simp only [List.length_append, List.length_cons, List.length_nil]; omega, by simp only; omega, b, pre, sp.drop 1, rfl, hlB, by rw [g1]; omega, g2, ?_⟩ (by rw [g1]; omega) fun c hcl hnb => ⟨?_, fun x hx => ?_⟩
    · simp only [List.length_append, List.length_cons, List.length_nil, List.length_drop]; omega
    · have hne : c ≠ b := hnb _ ha
      rw [g3 c hne, k9 c hcl]
    · cases hx; exact hnb _ ha
  · simp only at hcap hlt
    refine H _ _ ⟨by simp only [List.length_append, List.length_cons, List.length_nil]; omega, by simp only; omega, h9.size, [], _, rfl, by omega, by simp [push_size], push_new _ _, ?_⟩ (by simp [push_size]; omega) fun c hcl hnb => ⟨by rw [push_old _ _ (by omega), k9 c hcl], fun x hx => ?_⟩
    · simp only [List.length_append, zrow_len, List.length_cons, List.length_nil]; omega
    · cases hx; simp only; omega

theorem setI_getD {W : List Int} {i j : Nat} {v : Int} (hi : i < W.length) : (W.set i v).getD j 0 = if j = i then v else W.getD j 0 := by
  simp only [List.getD, List.getElem?_set]
  by_cases e : i = j
  · subst e; simp [hi]
  · rw [if_neg e, if_neg (fun q => e q.symm)]

/-- How many are not found yet. -/
def negs (W : List Int) : Nat := W.countP fun x => decide (x < 0)
theorem negs_set {W : List Int} {i : Nat} {v : Int} (hi : i < W.length) (h1 : W.getD i 0 < 0) (h2 : 0 ≤ v) : negs W = negs (W.set i v) + 1 := by
  unfold negs
  induction W generalizing i with
  | nil => simp at hi
  | cons x W ih =>
    cases i with
    | zero =>
      simp only [List.getD_cons_zero] at h1
      rw [List.set_cons_zero, List.countP_cons, List.countP_cons]
      simp [h1, show ¬ v < 0 by omega]
    | succ i =>
      rw [List.getD_cons_succ] at h1
      rw [List.set_cons_succ, List.countP_cons, List.countP_cons, ih (by simpa using hi) h1]
      omega

end Go.Hx
