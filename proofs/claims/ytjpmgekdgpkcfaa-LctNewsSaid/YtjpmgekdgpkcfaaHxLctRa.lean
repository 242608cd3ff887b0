/- The document's forest: a queue; what a search in breadth leaves. No condition. -/
import Derived.Test.YtjpmgekdgpkcfaaHxLctLC
namespace Go.Hx
set_option linter.unusedSimpArgs false
set_option linter.unusedVariables false

/-- A queue in a row of the program's own: what was taken, what is there, room. -/
structure Lsq (h : Hp) (s : Sl) (cs : List Value) (B : Nat) : Prop where
  n : s.n = cs.length
  le : s.n ≤ s.c
  ex : ∃ b pre sp, s.a = some ⟨b, pre.length, none⟩ ∧ B ≤ b ∧ b < h.size ∧ h.blk b = some (.cells (pre ++ (cs ++ sp))) ∧ s.c ≤ (cs ++ sp).length

theorem Lsq.pop {h : Hp} {s : Sl} {x : Value} {cs : List Value} {B : Nat} (q : Lsq h s (x :: cs) B) : Lsq h ⟨(if (Int.ofNat s.c) = 1 then s.a else Option.map (fun q => q.add (Int.toNat 1 * 1)) s.a), (Int.toNat ((Int.ofNat s.n) - 1)), (Int.toNat ((Int.ofNat s.c) - 1))⟩ cs B := by
  obtain ⟨h1, h2, b, pre, sp, ha, hB, hb, hc, hs⟩ := q
  simp only [List.length_cons, List.cons_append] at h1 hs
  refine ⟨by simp only [Int.ofNat_eq_natCast]; omega, by simp only [Int.ofNat_eq_natCast]; omega, ?_⟩
  by_cases e : (Int.ofNat s.c) = 1
  · have : cs = [] := List.eq_nil_of_length_eq_zero (by simp only [Int.ofNat_eq_natCast] at e; omega)
    subst this
    refine ⟨b, pre, x :: sp, by simp only [if_pos e]; exact ha, hB, hb, hc, ?_⟩
    simp only [Int.ofNat_eq_natCast] at e ⊢; omega
  · refine ⟨b, pre ++ [x], sp, ?_, hB, hb, by rw [hc]; simp, ?_⟩
    · simp only [if_neg e, ha, Option.map_some, add_mk, List.length_append]; rfl
    · simp only [Int.ofNat_eq_natCast]; omega

theorem Lsq.keep {h h' : Hp} {s : Sl} {cs : List Value} {B : Nat} (q : Lsq h s cs B) (hz : h.size ≤ h'.size) (hb : ∀ a, s.a = some a → h'.blk a.block = h.blk a.block) : Lsq h' s cs B := by
  obtain ⟨h1, h2, b, pre, sp, ha, hB, hb', hc, hs⟩ := q
  exact ⟨h1, h2, b, pre, sp, ha, hB, by omega, (hb _ ha).trans hc, hs⟩
theorem Lsq.blk_lt {h : Hp} {s : Sl} {cs : List Value} {B : Nat} (q : Lsq h s cs B) {x : Addr} (hx : s.a = some x) : B ≤ x.block ∧ x.block < h.size := by
  obtain ⟨h1, h2, b, pre, sp, ha, hB, hb', hc, hs⟩ := q
  rw [ha] at hx; cases hx; exact ⟨hB, hb'⟩

theorem Lsq.one {h : Hp} {b : Nat} {v : Value} {B : Nat} (hb : h.blk b = some (.cells [v])) (hB : B ≤ b) (hl : b < h.size) : Lsq h ⟨some ⟨b, 0, none⟩, 1, 1⟩ [v] B :=
  ⟨rfl, Nat.le_refl _, b, [], [], rfl, hB, hl, hb, by simp⟩

theorem Lsq.hd {h : Hp} {s : Sl} {x : Int} {cs : List Value} {B : Nat} (q : Lsq h s (.int .i64 x :: cs) B) {K : Int → Prop} (hK : K x) : ix s.a s.n 0 fun a => ldI .i64 h (a.add (Int.toNat 0 * 1)) K := by
  obtain ⟨h1, h2, b, pre, sp, ha, hB, hb', hc, hs⟩ := q
  simp only [List.length_cons] at h1
  refine ⟨_, ha, by omega, by omega, ldI_of ?_ hK⟩
  rw [add_mk, cell_own hc]
  simp

theorem Lsq.app1 {h : Hp} {s : Sl} {cs : List Value} {B : Nat} {v z : Value} {K : Sl → Hp → Prop} (q : Lsq h s cs B) (hv : v.oneCell = true) (hB : B ≤ h.size) (hn : s.n < 2 ^ 40)
    (H : ∀ s' h', Lsq h' s' (cs ++ [v]) B → h.size ≤ h'.size → (∀ c, c < h.size → nb s c → h'.blk c = h.blk c ∧ nb s' c) → K s' h') :
    alo h [v] fun a8 h9 => app 1 8 [z] ⟨s.a, s.n, s.c⟩ ⟨some a8, 1, 1⟩ h9 fun s10 h11 => K s10 h11 := by
  obtain ⟨h1, h2, b, pre, sp, ha, hlB, hb', hc, hs⟩ := q
  refine alo_of fun h9 z9 b9 k9 => ?_
  have hc9 : h9.blk b = some (.cells (pre ++ (cs ++ sp))) := (k9 b hb').trans hc
  have e1 : h9.seg s.a (s.n * 1) = some cs := by
    rw [ha, seg_row (row_own hc9) (by simp only [List.length_append]; omega), Nat.mul_one, h1]
    simp
  refine ⟨cs, [v], e1, by rw [seg_row (row_own b9) (by simp)]; rfl, by simpa using hv, fun hle => ⟨fun a hx => ?_, ?_⟩, fun hlt => ⟨by simp only; omega, by simp only; omega, fun cap hcap => ?_⟩⟩
  · simp only at hx hle
    rw [ha] at hx; cases hx
    refine ⟨rfl, fun _ => ⟨_, hc9, ?_⟩⟩
    simp only [List.length_append] at hs ⊢; omega
  · simp only at hle
    simp only [ha, add_mk]
    rw [List.length_append] at hs
    have hsp : 0 < sp.length := by omega
    obtain ⟨g1, g2, g3⟩ := setl_blk (h := h9) (o := pre.length + s.n * 1) [v] 0 hc9 (by simp only [List.length_append, List.length_cons, List.length_nil]; omega)
    have e : (pre ++ (cs ++ sp)).take (pre.length + s.n * 1 + 0) ++ [v] ++ (pre ++ (cs ++ sp)).drop (pre.length + s.n * 1 + 0 + [v].length) = pre ++ ((cs ++ [v]) ++ sp.drop 1) := by
      rw [h1]
      simp only [Nat.mul_one, Nat.add_zero, List.length_cons, List.length_nil, Nat.zero_add]
      rw [show pre ++ (cs ++ sp) = (pre ++ cs) ++ sp by simp, show pre.length + cs.length = (pre ++ cs).length by simp, List.take_left', List.drop_append]
      · simp
      · rfl
    rw [e] at g2
    refine H _ _ ⟨by simp only [List.length_append, List.length_cons, List.length_nil]; omega, by simp only; omega, b, pre, sp.drop 1, rfl, hlB, by rw [g1]; omega, g2, ?_⟩ (by rw [g1]; omega) fun c hcl hnb => ⟨?_, fun x hx => ?_⟩
    · simp only [List.length_append, List.length_cons, List.length_nil, List.length_drop]; omega
    · have hne : c ≠ b := hnb _ ha
      rw [g3 c hne, k9 c hcl]
    · cases hx; exact hnb _ ha
  · simp only at hcap hlt
    refine H _ _ ⟨by simp only [List.length_append, List.length_cons, List.length_nil]; omega, by simp only; omega, h9.size, [], _, rfl, by omega, by simp [push_size], push_new _ _, ?_⟩ (by simp [push_size]; omega) fun c hcl hnb => ⟨by rw [push_old _ _ (by omega), k9 c hcl], fun x hx => ?_⟩
    · simp only [List.length_append, zrow_len, List.length_cons, List.length_nil]; omega
    · cases hx; simp only; omega

/-! ### What the search leaves -/

/-- Of each vertex the next one towards a vertex. -/
structure TW (L : Es) (n to : Nat) (W : List Int) : Prop where
  len : W.length = n
  con : ∀ w, w < n → (0 ≤ W.getD w 0 ↔ Cn (eL L) to w)
  nxt : ∃ lv : Nat → Nat, ∀ w, w < n → 0 ≤ W.getD w 0 → w ≠ to → ∃ x : Nat, x < n ∧ W.getD w 0 = x ∧ eL L w x ∧ lv x < lv w ∧ 0 ≤ W.getD x 0

/-- While it searches: Q waits. -/
structure TQ (L : Es) (n to : Nat) (W : List Int) (Q : List Nat) (op : Nat → Prop) : Prop where
  len : W.length = n
  low : ∀ w, w < n → -1 ≤ W.getD w 0
  at0 : 0 ≤ W.getD to 0
  nxt : ∃ lv : Nat → Nat, ∀ w, w < n → 0 ≤ W.getD w 0 → w ≠ to → ∃ x : Nat, x < n ∧ W.getD w 0 = x ∧ eL L w x ∧ lv x < lv w ∧ 0 ≤ W.getD x 0
  q : ∀ v, v ∈ Q → v < n ∧ 0 ≤ W.getD v 0
  cl : ∀ w, w < n → 0 ≤ W.getD w 0 → w ∉ Q → ¬ op w → ∀ z, eL L w z → 0 ≤ W.getD z 0

theorem set_getD {W : List Int} {i j : Nat} {v : Int} (hi : i < W.length) : (W.set i v).getD j 0 = if j = i then v else W.getD j 0 := by
  simp only [List.getD, List.getElem?_set]
  by_cases e : i = j
  · subst e; simp [hi]
  · rw [if_neg e, if_neg (fun q => e q.symm)]

/-- How many are not found yet. -/
def nneg (W : List Int) : Nat := W.countP fun x => decide (x < 0)
theorem nneg_set {W : List Int} {i : Nat} {v : Int} (hi : i < W.length) (h1 : W.getD i 0 < 0) (h2 : 0 ≤ v) : nneg W = nneg (W.set i v) + 1 := by
  unfold nneg
  induction W generalizing i with
  | nil => simp at hi
  | cons x W ih =>
    cases i with
    | zero =>
      simp only [List.getD_cons_zero] at h1
      rw [List.set_cons_zero, List.countP_cons, List.countP_cons]
      simp [h1, show ¬ v < 0 by omega]
    | succ i =>
      rw [List.getD_cons_succ] at h1
      rw [List.set_cons_succ, List.countP_cons, List.countP_cons, ih (by simpa using hi) h1]
      omega

theorem TQ.add {L : Es} {n to v z : Nat} {W : List Int} {Q : List Nat} (d : TQ L n to W Q (fun w => w = v)) (hv : v < n) (hW : 0 ≤ W.getD v 0) (e : eL L v z) (hz : z < n) (hneg : W.getD z 0 < 0) : TQ L n to (W.set z (v : Int)) (Q ++ [z]) (fun w => w = v) := by
  have hzl : z < W.length := by rw [d.len]; exact hz
  have g : ∀ j, (W.set z (v : Int)).getD j 0 = if j = z then (v : Int) else W.getD j 0 := fun j => set_getD hzl
  have up : ∀ j, 0 ≤ W.getD j 0 → 0 ≤ (W.set z (v : Int)).getD j 0 := fun j hj => by
    rw [g]; split <;> omega
  obtain ⟨lv, hl⟩ := d.nxt
  have vz : v ≠ z := fun q => by subst q; omega
  refine ⟨by rw [List.length_set]; exact d.len, fun w hw => ?_, up _ d.at0, ⟨fun w => if w = z then lv v + 1 else lv w, fun w hw h0 hne => ?_⟩, fun w hw => ?_, fun w hw h0 hq ho y ey => ?_⟩
  · rw [g]; have := d.low w hw; split <;> omega
  · rw [g] at h0
    by_cases q : w = z
    · refine ⟨v, hv, by rw [g, if_pos q], by rw [q]; exact eL_sym e, ?_, up _ hW⟩
      simp only [if_pos q, if_neg vz]; omega
    · rw [if_neg q] at h0
      obtain ⟨x, h1, h2, h3, h4, h5⟩ := hl w hw h0 hne
      have xz : x ≠ z := fun q => by subst q; omega
      refine ⟨x, h1, by rw [g, if_neg q, h2], h3, ?_, up _ h5⟩
      simp only [if_neg q, if_neg xz]; exact h4
  · rcases List.mem_append.1 hw with h | h
    · obtain ⟨h1, h2⟩ := d.q w h
      exact ⟨h1, up _ h2⟩
    · simp only [List.mem_singleton] at h
      subst h
      exact ⟨hz, by rw [g, if_pos rfl]; omega⟩
  · simp only [List.mem_append, List.mem_singleton, not_or] at hq
    rw [g, if_neg hq.2] at h0
    exact up _ (d.cl w hw h0 hq.1 ho y ey)

theorem TQ.fin {L : Es} {n to : Nat} {W : List Int} (d : TQ L n to W [] (fun _ => False)) (hto : to < n) (bd : ∀ e, e ∈ L → e.1 < n ∧ e.2 < n) : TW L n to W := by
  refine ⟨d.len, fun w hw => ⟨fun h => ?_, fun c => ?_⟩, d.nxt⟩
  · obtain ⟨lv, hl⟩ := d.nxt
    have : ∀ k w, lv w < k → w < n → 0 ≤ W.getD w 0 → Cn (eL L) to w := by
      intro k
      induction k with
      | zero => intro w h; omega
      | succ k ih =>
        intro w hk hw h0
        by_cases e : w = to
        · subst e; exact .refl _
        · obtain ⟨x, h1, h2, h3, h4, h5⟩ := hl w hw h0 e
          exact (ih x (by omega) h1 h5).trans (Cn.back h3)
    exact this _ w (Nat.lt_succ_self _) hw h
  · have key := c.const (fun w => w < n ∧ 0 ≤ W.getD w 0) fun p q e => by
      have pn : p < n ∧ q < n := by
        rcases e with e | e
        · have := bd _ e; exact this
        · have := bd _ e; exact ⟨this.2, this.1⟩
      exact ⟨fun h => ⟨pn.2, d.cl p pn.1 h.2 (by simp) (by simp) q e⟩, fun h => ⟨pn.1, d.cl q pn.2 h.2 (by simp) (by simp) p (eL_sym e)⟩⟩
    exact (key.1 ⟨hto, d.at0⟩).2

end Go.Hx
