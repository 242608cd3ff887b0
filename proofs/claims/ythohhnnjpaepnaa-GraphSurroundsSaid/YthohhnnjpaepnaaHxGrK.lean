/- Distances: a search in breadth. No condition. -/
import Derived.Test.YthohhnnjpaepnaaHxGrJ
import Derived.Test.YthohhnnjpaepnaaHxQu
namespace Go.Hx
set_option linter.unusedSimpArgs false
set_option linter.unusedVariables false

/-! ### What distances are. Plain -/

def adj (P : Nat → Nat → Prop) (u w : Nat) : Prop := P u w ∨ P w u

structure Dis (P : Nat → Nat → Prop) (n v : Nat) (W : List Int) : Prop where
  len : W.length = n
  low : ∀ w, w < n → -1 ≤ W.getD w 0
  at0 : W.getD v 0 = 0
  z : ∀ w, w < n → W.getD w 0 = 0 → w = v
  nxt : ∀ w, w < n → 0 < W.getD w 0 → ∃ u, u < n ∧ adj P u w ∧ W.getD u 0 = W.getD w 0 - 1
  cl : ∀ w, w < n → 0 ≤ W.getD w 0 → ∀ z, z < n → adj P w z → 0 ≤ W.getD z 0 ∧ W.getD z 0 ≤ W.getD w 0 + 1

theorem Dis.le {P : Nat → Nat → Prop} {n v : Nat} {W W' : List Int} (d : Dis P n v W) (d' : Dis P n v W') : ∀ (k : Nat) (w : Nat), w < n → W.getD w 0 = k → 0 ≤ W'.getD w 0 ∧ W'.getD w 0 ≤ k := by
  intro k
  induction k with
  | zero =>
    intro w hw e
    have := d.z w hw (by omega)
    subst this
    rw [d'.at0]; omega
  | succ k ih =>
    intro w hw e
    obtain ⟨u, hu, ha, hd⟩ := d.nxt w hw (by omega)
    obtain ⟨h1, h2⟩ := ih u hu (by omega)
    have := d'.cl u hu h1 w hw ha
    omega

theorem Dis.uniq {P : Nat → Nat → Prop} {n v : Nat} {W W' : List Int} (d : Dis P n v W) (d' : Dis P n v W') : W = W' := by
  refine list_getD (by rw [d.len, d'.len]) fun w hw => ?_
  rw [d.len] at hw
  have h1 := d.low w hw
  have h2 := d'.low w hw
  by_cases q : 0 ≤ W.getD w 0
  · obtain ⟨k, hk⟩ : ∃ k : Nat, W.getD w 0 = k := ⟨(W.getD w 0).toNat, by omega⟩
    obtain ⟨a1, a2⟩ := d.le d' k w hw hk
    obtain ⟨k', hk'⟩ : ∃ k : Nat, W'.getD w 0 = k := ⟨(W'.getD w 0).toNat, by omega⟩
    obtain ⟨b1, b2⟩ := d'.le d k' w hw hk'
    omega
  · by_cases q' : 0 ≤ W'.getD w 0
    · obtain ⟨k', hk'⟩ : ∃ k : Nat, W'.getD w 0 = k := ⟨(W'.getD w 0).toNat, by omega⟩
      obtain ⟨b1, b2⟩ := d'.le d k' w hw hk'
      omega
    · omega

theorem adj_Cn {P : Nat → Nat → Prop} {u w : Nat} (h : adj P u w) : Cn P u w := h.elim .one .back

/-- There is a distance just where there is a connection. -/
theorem Dis.con {P : Nat → Nat → Prop} {n v : Nat} {W : List Int} (d : Dis P n v W) (bd : ∀ u w, P u w → u < n ∧ w < n) (hv : v < n) {w : Nat} (hw : w < n) : 0 ≤ W.getD w 0 ↔ Cn P v w := by
  constructor
  · have : ∀ (k : Nat) (w : Nat), w < n → W.getD w 0 = k → Cn P v w := by
      intro k
      induction k with
      | zero => intro w hw e; have := d.z w hw (by omega); subst this; exact .refl _
      | succ k ih =>
        intro w hw e
        obtain ⟨u, hu, ha, hd⟩ := d.nxt w hw (by omega)
        exact (ih u hu (by omega)).trans (adj_Cn ha)
    intro h
    exact this (W.getD w 0).toNat w hw (by omega)
  · intro c
    have key := c.const (fun w => w < n ∧ 0 ≤ W.getD w 0) fun p q e => by
      obtain ⟨hp, hq⟩ := bd p q e
      exact ⟨fun h => ⟨hq, (d.cl p hp h.2 q hq (.inl e)).1⟩, fun h => ⟨hp, (d.cl q hq h.2 p hp (.inr e)).1⟩⟩
    exact (key.1 ⟨hv, by rw [d.at0]; omega⟩).2

/-- While it searches: Q waits; k: the distance of the one that is looked at. -/
structure BQ (P : Nat → Nat → Prop) (n v : Nat) (W : List Int) (Q : List Nat) (op : Nat → Prop) (k : Int) : Prop where
  len : W.length = n
  low : ∀ w, w < n → -1 ≤ W.getD w 0
  at0 : W.getD v 0 = 0
  z : ∀ w, w < n → W.getD w 0 = 0 → w = v
  nxt : ∀ w, w < n → 0 < W.getD w 0 → ∃ u, u < n ∧ adj P u w ∧ W.getD u 0 = W.getD w 0 - 1
  q : ∀ u, u ∈ Q → u < n ∧ k ≤ W.getD u 0
  srt : Q.Pairwise fun a b => W.getD a 0 ≤ W.getD b 0
  up : ∀ w, w < n → W.getD w 0 ≤ k + 1
  k0 : 0 ≤ k
  cl : ∀ w, w < n → 0 ≤ W.getD w 0 → w ∉ Q → ¬ op w → ∀ z, z < n → adj P w z → 0 ≤ W.getD z 0 ∧ W.getD z 0 ≤ W.getD w 0 + 1

theorem BQ.take {P : Nat → Nat → Prop} {n v u : Nat} {W : List Int} {Q : List Nat} {k : Int} (d : BQ P n v W (u :: Q) (fun _ => False) k) : u < n ∧ BQ P n v W Q (fun w => w = u) (W.getD u 0) := by
  obtain ⟨hu, hk⟩ := d.q u (by simp)
  have hs := d.srt
  rw [List.pairwise_cons] at hs
  have k0 := d.k0
  refine ⟨hu, d.len, d.low, d.at0, d.z, d.nxt, fun w hw => ⟨(d.q w (by simp [hw])).1, hs.1 w hw⟩, hs.2, fun w hw => ?_, by omega, fun w hw h0 hq ho => d.cl w hw h0 (by simp only [List.mem_cons, not_or]; exact ⟨ho, hq⟩) (by simp)⟩
  have := d.up w hw; omega

theorem BQ.add {P : Nat → Nat → Prop} {n v u x : Nat} {W : List Int} {Q : List Nat} {k : Int} (d : BQ P n v W Q (fun w => w = u) k) (hu : u < n) (hWu : W.getD u 0 = k) (hx : x < n) (ha : adj P u x) (hneg : W.getD x 0 < 0) : BQ P n v (W.set x (k + 1)) (Q ++ [x]) (fun w => w = u) k := by
  have hxl : x < W.length := by rw [d.len]; exact hx
  have k0 := d.k0
  have g : ∀ j, (W.set x (k + 1)).getD j 0 = if j = x then k + 1 else W.getD j 0 := fun j => setI_getD hxl
  have vx : v ≠ x := fun e => by subst e; rw [d.at0] at hneg; omega
  have xQ : x ∉ Q := fun h => by have := (d.q x h).2; omega
  refine ⟨by rw [List.length_set]; exact d.len, fun w hw => ?_, by rw [g, if_neg vx]; exact d.at0, fun w hw h => ?_, fun w hw h => ?_, fun w hw => ?_, ?_, fun w hw => ?_, k0, fun w hw h0 hq ho y hy ey => ?_⟩
  · rw [g]; have := d.low w hw; split <;> omega
  · rw [g] at h
    split at h
    · omega
    · exact d.z w hw h
  · rw [g] at h ⊢
    by_cases e : w = x
    · rw [if_pos e]
      subst e
      exact ⟨u, hu, ha, by rw [g, if_neg (fun q => by subst q; omega)]; omega⟩
    · rw [if_neg e] at h ⊢
      obtain ⟨y, h1, h2, h3⟩ := d.nxt w hw h
      have : y ≠ x := fun q => by subst q; omega
      exact ⟨y, h1, h2, by rw [g, if_neg this]; exact h3⟩
  · rw [g]
    rcases List.mem_append.1 hw with h | h
    · have := d.q w h
      split
      · exact ⟨this.1, by omega⟩
      · exact this
    · simp only [List.mem_singleton] at h
      subst h
      exact ⟨hx, by rw [if_pos rfl]; omega⟩
  · rw [List.pairwise_append]
    refine ⟨d.srt.imp_of_mem fun {a b} ha' hb' h => ?_, by simp, fun a ha' b hb' => ?_⟩
    · rw [g, g, if_neg (show ¬ a = x from fun q => xQ (q ▸ ha')), if_neg (show ¬ b = x from fun q => xQ (q ▸ hb'))]; exact h
    · simp only [List.mem_singleton] at hb'
      subst hb'
      rw [g, g, if_neg (show ¬ a = b from fun q => xQ (q ▸ ha')), if_pos rfl]
      exact d.up a (d.q a ha').1
  · rw [g]; have := d.up w hw; split <;> omega
  · simp only [List.mem_append, List.mem_singleton, not_or] at hq
    rw [g, if_neg hq.2] at h0
    obtain ⟨h1, h2⟩ := d.cl w hw h0 hq.1 ho y hy ey
    have : y ≠ x := fun q => by subst q; omega
    rw [g, g, if_neg this, if_neg hq.2]
    exact ⟨h1, h2⟩

/-- All about one vertex has been looked at. -/
theorem BQ.done {P : Nat → Nat → Prop} {n v u : Nat} {W : List Int} {Q : List Nat} {k : Int} (d : BQ P n v W Q (fun w => w = u) k) (hWu : W.getD u 0 = k) (h : ∀ z, z < n → adj P u z → 0 ≤ W.getD z 0) : BQ P n v W Q (fun _ => False) k :=
  ⟨d.len, d.low, d.at0, d.z, d.nxt, d.q, d.srt, d.up, d.k0, fun w hw h0 hq _ z hz e => by
    by_cases q : w = u
    · subst q
      exact ⟨h z hz e, by rw [hWu]; exact d.up z hz⟩
    · exact d.cl w hw h0 hq q z hz e⟩

theorem BQ.fin {P : Nat → Nat → Prop} {n v : Nat} {W : List Int} {k : Int} (d : BQ P n v W [] (fun _ => False) k) : Dis P n v W := ⟨d.len, d.low, d.at0, d.z, d.nxt, fun w hw h0 => d.cl w hw h0 (by simp) (by simp)⟩

/-! ### Half-edges and pairs -/

theorem arH_adj {M : List Int} {m u j : Nat} (h : j ∈ arH M m u) : adj (eP M m) u (VO M j) := by
  obtain ⟨h1, h2⟩ := arH_lt h
  rw [VX_gt h1] at h2
  unfold VO
  by_cases q : j % 2 = 0
  · rw [if_pos q] at h2 ⊢; exact .inl ⟨j / 2, by omega, h2.symm, rfl⟩
  · rw [if_neg q] at h2 ⊢; exact .inr ⟨j / 2, by omega, rfl, h2.symm⟩
theorem adj_arH {M : List Int} {m u z : Nat} (h : adj (eP M m) u z) : ∃ j, j ∈ arH M m u ∧ VO M j = z := by
  unfold arH
  rcases h with ⟨i, hi, rfl, rfl⟩ | ⟨i, hi, rfl, rfl⟩
  · refine ⟨2 * i, by rw [List.mem_filter, List.mem_range, beq_iff_eq]; exact ⟨by omega, VX_u hi⟩, ?_⟩
    unfold VO; rw [if_pos (by omega), show 2 * i / 2 = i by omega]
  · refine ⟨2 * i + 1, by rw [List.mem_filter, List.mem_range, beq_iff_eq]; exact ⟨by omega, VX_v hi⟩, ?_⟩
    unfold VO; rw [if_neg (by omega), show (2 * i + 1) / 2 = i by omega]

/-! ### A row of equal numbers -/

theorem rep_spec {h : Hp} {a4 : Nat} (b4 : h.blk a4 = some (.cells [.int .i64 (-1)])) (la : a4 < h.size) {n : Nat} (hn : n ≤ 4096) (K : Sl → Hp → Prop)
    (hK : ∀ s h', Lst h' 1 s (ints (List.replicate n (-1))) h.size → s.n = n → Fr h.size h h' → K s h') : g_slices_Repeat_int (⟨some ⟨a4, 0, none⟩, 1, 1⟩ : Sl) (n : Int) h K := by
  unfold g_slices_Repeat_int
  have w1 : IntKind.u64.wrap (Int.ofNat 1) = 1 := by rw [u64w]; rfl
  have wn : IntKind.u64.wrap (n : Int) = n := by rw [u64w]; omega
  refine cnd_f (by simp only [decide_eq_false_iff_not]; omega) ?_
  rw [w1, wn]
  refine mul1_spec (by omega) h _ (cnd_f rfl (cnd_f (by simp only [decide_eq_false_iff_not]; omega) ?_))
  have wi : w64 (n : Int) = n := by rw [w64, w64k (by omega)]
  rw [wi]
  refine mks_of (by omega) (Int.le_refl _) (by omega) fun h5 z5 b5 k5 => ?_
  simp only [Int.toNat_natCast] at b5 ⊢
  have b4' : h5.row a4 = some [.int .i64 (-1)] := row_own ((k5 a4 la).trans b4)
  have zr : ∀ k, zrow [Value.int .i64 0] k = ints (List.replicate k 0) := fun k => by
    induction k with
    | zero => rfl
    | succ k ih => simp only [zrow, List.replicate_succ, List.flatten_cons] at *; rw [ih]; rfl
  rw [zr] at b5
  have mn : min 1 n = if n = 0 then 0 else 1 := by split <;> omega
  -- the first one
  refine ⟨ints (List.replicate (min 1 n) (-1)), ?_, ints_one _, fun q => (by cases q), fun a ha => ?_⟩
  · simp only
    rw [Nat.mul_one]
    by_cases q : n = 0
    · subst q; simp [seg_zero, ints]
    · rw [show min 1 n = 1 by omega, seg_row b4' (by simp)]; rfl
  cases ha
  refine ⟨rfl, fun _ => ⟨_, b5, by simp [ints_len]; omega⟩, ?_⟩
  obtain ⟨g1, g2, g3⟩ := setl_blk (h := h5) (o := 0) (ints (List.replicate (min 1 n) (-1))) 0 b5 (by simp [ints_len]; omega)
  have e1 : (ints (List.replicate n 0)).take (0 + 0) ++ ints (List.replicate (min 1 n) (-1)) ++ (ints (List.replicate n 0)).drop (0 + 0 + (ints (List.replicate (min 1 n) (-1))).length) = ints (List.replicate (min 1 n) (-1) ++ List.replicate (n - min 1 n) 0) := by
    simp [ints, List.drop_replicate]
  rw [e1] at g2
  refine loop_of (fun q (st : Int × Unit) g => ∃ k : Nat, st.1 = k ∧ k ≤ n ∧ (0 < n → 0 < k) ∧ n - k ≤ q ∧ Fr h.size h g ∧ h.size < g.size ∧ g.blk h.size = some (.cells (ints (List.replicate k (-1) ++ List.replicate (n - k) 0)))) ?_ (n := n) ⟨min 1 n, rfl, by omega, by omega, by omega, ⟨by rw [g1]; omega, fun c hc => by rw [g3 c (by omega), k5 c hc]⟩, by rw [g1]; omega, g2⟩
  rintro q Kr ⟨st, _⟩ g ⟨k, rfl, hk, hk0, hq, fg, zg, bg⟩ hKr
  refine cnd_of (fun c => ?_) fun c => ?_
  · simp only [decide_eq_true_eq, Int.ofNat_eq_natCast] at c
    have hkn : k < n := by omega
    refine ⟨by omega, by simp only [Int.ofNat_eq_natCast]; omega, Int.le_refl _, Int.le_refl _, ⟨by omega, by omega, by simp only [Int.ofNat_eq_natCast]; omega, Int.le_refl _, ?_⟩⟩
    simp only [Int.ofNat_eq_natCast]
    rw [if_neg (by omega), if_neg (by omega)]
    simp only [Option.map_some, add_mk, Nat.zero_add, Int.toNat_natCast, Nat.mul_one, Int.sub_zero]
    have tn : Int.toNat ((n : Int) - (k : Int)) = n - k := by omega
    rw [tn]
    have z0 : Int.toNat 0 = 0 := rfl
    rw [z0]
    obtain ⟨p, hp⟩ : ∃ p, p = min k (n - k) := ⟨_, rfl⟩
    refine ⟨ints (List.replicate p (-1)), ?_, ints_one _, fun q => (by cases q), fun a ha => ?_⟩
    · simp only [Nat.mul_one]
      rw [← hp, seg_row (row_own bg) (by simp [ints_len]; omega)]
      simp only [List.drop_zero, ints, List.map_append, List.map_replicate]
      rw [List.take_append_of_le_length (by simp; omega), List.take_replicate, show min p k = p by omega]
    simp only [Option.some.injEq] at ha
    subst ha
    refine ⟨rfl, fun _ => ⟨_, bg, by simp [ints_len]; omega⟩, ?_⟩
    obtain ⟨g1, g2, g3⟩ := setl_blk (h := g) (o := k) (ints (List.replicate p (-1))) 0 bg (by simp [ints_len]; omega)
    have e2 : (ints (List.replicate k (-1) ++ List.replicate (n - k) 0)).take (k + 0) ++ ints (List.replicate p (-1)) ++ (ints (List.replicate k (-1) ++ List.replicate (n - k) 0)).drop (k + 0 + (ints (List.replicate p (-1))).length) = ints (List.replicate (k + p) (-1) ++ List.replicate (n - (k + p)) 0) := by
      simp only [ints, List.map_append, List.map_replicate, Nat.add_zero, List.length_replicate]
      rw [List.take_left' (by simp), List.drop_append, List.drop_replicate, List.drop_replicate, List.length_replicate, show k - (k + p) = 0 by omega, List.replicate_zero, List.nil_append, List.replicate_append_replicate, show n - k - (k + p - k) = n - (k + p) by omega]
    rw [e2] at g2
    obtain ⟨q', rfl⟩ : ∃ q', q = q' + 1 := ⟨q - 1, by omega⟩
    simp only [← hp]
    refine hKr q' rfl _ _ ⟨k + p, ?_, by omega, by omega, by omega, ⟨by rw [g1]; exact fg.size, fun c hc => by rw [g3 c (by omega), fg.blk c hc]⟩, by rw [g1]; exact zg, g2⟩
    simp only
    rw [w64, ← Int.natCast_add, w64k (by omega)]
  · simp only [decide_eq_false_iff_not, Int.ofNat_eq_natCast] at c
    obtain rfl : k = n := by omega
    refine hK _ g ⟨by simp [ints_len], Nat.le_refl _, .inr ⟨h.size, [], rfl, Nat.le_refl _, zg, by rw [bg]; simp, by simp [ints_len]⟩⟩ rfl fg

end Go.Hx
