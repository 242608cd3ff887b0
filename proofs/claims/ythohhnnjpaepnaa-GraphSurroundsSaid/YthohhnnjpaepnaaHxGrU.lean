/- The graph at a threshold. No condition. -/
import Derived.Test.YthohhnnjpaepnaaHxGGraphNews
namespace Go.Hx
set_option linter.unusedSimpArgs false
set_option linter.unusedVariables false

/-! ### Plain: the edges that are left -/

def tri (M : List Int) (i : Nat) : List Int := [M.getD (i * 3 + 0) 0, M.getD (i * 3 + 1) 0, M.getD (i * 3 + 2) 0]
def undE (M : List Int) (t : Int) (i : Nat) : List Int := if M.getD (i * 3 + 2) 0 ≤ t then tri M i else []
def und (M : List Int) (t : Int) : Nat → List Int
  | 0 => []
  | k + 1 => und M t k ++ undE M t k

theorem und_succ (M : List Int) (t : Int) (k : Nat) : und M t (k + 1) = und M t k ++ undE M t k := rfl

theorem und_len (M : List Int) (t : Int) (k : Nat) : ∃ l, (und M t k).length = l * 3 ∧ l ≤ k := by
  induction k with
  | zero => exact ⟨0, rfl, Nat.le_refl _⟩
  | succ k ih =>
    obtain ⟨l, h1, h2⟩ := ih
    rw [und_succ]
    unfold undE
    split
    · exact ⟨l + 1, by rw [List.length_append, h1]; simp only [tri, List.length_cons, List.length_nil]; omega, by omega⟩
    · exact ⟨l, by rw [List.append_nil, h1], by omega⟩

theorem tri_app {A B : List Int} {i : Nat} (h : i * 3 + 2 < A.length) : tri (A ++ B) i = tri A i := by
  unfold tri
  rw [getD_app, getD_app, getD_app, if_pos (by omega), if_pos (by omega), if_pos (by omega)]

theorem tri_at {A B : List Int} {i : Nat} {x y z : Int} (h : A.length = i * 3) : tri (A ++ x :: y :: z :: B) i = [x, y, z] := by
  unfold tri
  rw [getD_app, getD_app, getD_app, if_neg (by omega), if_neg (by omega), if_neg (by omega), show i * 3 + 0 - A.length = 0 by omega, show i * 3 + 1 - A.length = 1 by omega, show i * 3 + 2 - A.length = 2 by omega]
  rfl

/-- All of it stays where no weight is greater. -/
theorem und_all {M : List Int} {t : Int} : ∀ {k : Nat}, k * 3 ≤ M.length → (∀ i, i < k → M.getD (i * 3 + 2) 0 ≤ t) → und M t k = M.take (k * 3)
  | 0, _, _ => by simp [und]
  | k + 1, hk, h => by
    rw [und_succ, und_all (by omega) fun i hi => h i (by omega)]
    unfold undE
    rw [if_pos (h k (by omega))]
    unfold tri
    have g : ∀ j, j < M.length → M.getD j 0 = M[j]?.getD 0 := fun j hj => rfl
    rw [show (k + 1) * 3 = k * 3 + 0 + 1 + 1 + 1 by omega, List.take_add_one, List.take_add_one, List.take_add_one]
    simp only [List.getD, List.getElem?_eq_getElem (show k * 3 < M.length by omega), List.getElem?_eq_getElem (show k * 3 + 0 < M.length by omega), List.getElem?_eq_getElem (show k * 3 + 0 + 1 < M.length by omega), List.getElem?_eq_getElem (show k * 3 + 0 + 1 + 1 < M.length by omega), List.getElem?_eq_getElem (show k * 3 + 1 < M.length by omega), List.getElem?_eq_getElem (show k * 3 + 2 < M.length by omega), Option.getD_some, Option.toList_some, List.append_assoc, List.cons_append, List.nil_append, Nat.add_zero]

theorem tri_inj {M N : List Int} {i j : Nat} (h : tri M i = tri N j) : M.getD (i * 3 + 0) 0 = N.getD (j * 3 + 0) 0 ∧ M.getD (i * 3 + 1) 0 = N.getD (j * 3 + 1) 0 ∧ M.getD (i * 3 + 2) 0 = N.getD (j * 3 + 2) 0 := by
  unfold tri at h
  simp only [List.cons.injEq, and_true] at h
  exact h

/-- The edges that are left, one by one. -/
theorem und_get (M : List Int) (t : Int) : ∀ (k l : Nat), (und M t k).length = l * 3 → (∀ i, i < l → ∃ x, x < k ∧ M.getD (x * 3 + 2) 0 ≤ t ∧ tri (und M t k) i = tri M x) ∧ ∀ x, x < k → M.getD (x * 3 + 2) 0 ≤ t → ∃ i, i < l ∧ tri (und M t k) i = tri M x := by
  intro k
  induction k with
  | zero => intro l hl; simp [und] at hl; exact ⟨fun i hi => by omega, fun x hx => by omega⟩
  | succ k ih =>
    intro l hl
    obtain ⟨l0, h0, _⟩ := und_len M t k
    obtain ⟨i1, i2⟩ := ih l0 h0
    rw [und_succ] at hl ⊢
    unfold undE at hl ⊢
    by_cases c : M.getD (k * 3 + 2) 0 ≤ t
    · rw [if_pos c] at hl ⊢
      rw [List.length_append, h0] at hl
      simp only [tri, List.length_cons, List.length_nil] at hl
      have new : tri (und M t k ++ tri M k) l0 = tri M k := tri_at (B := []) h0
      constructor
      · intro i hi
        by_cases e : i = l0
        · subst e; exact ⟨k, by omega, c, new⟩
        · obtain ⟨x, hx, hx2, hx3⟩ := i1 i (by omega)
          exact ⟨x, by omega, hx2, by rw [tri_app (by omega)]; exact hx3⟩
      · intro x hx hx2
        by_cases e : x = k
        · subst e; exact ⟨l0, by omega, new⟩
        · obtain ⟨i, hi, hi2⟩ := i2 x (by omega) hx2
          exact ⟨i, by omega, by rw [tri_app (by omega)]; exact hi2⟩
    · rw [if_neg c] at hl ⊢
      rw [List.append_nil] at hl ⊢
      obtain rfl : l = l0 := by omega
      constructor
      · intro i hi
        obtain ⟨x, hx, q⟩ := i1 i hi
        exact ⟨x, by omega, q⟩
      · intro x hx hx2
        exact i2 x (by
          by_cases e : x = k
          · subst e; exact absurd hx2 c
          · omega) hx2

theorem und_gok {M : List Int} {t n : Int} {m l : Nat} (ok : GOk n m M) (hl : (und M t m).length = l * 3) : GOk n l (und M t m) := by
  obtain ⟨l0, e0, hle⟩ := und_len M t m
  refine ⟨ok.1, ok.2.1, by have := ok.2.2.1; omega, fun i hi => ?_⟩
  obtain ⟨x, hx, _, e⟩ := (und_get M t m l hl).1 i hi
  obtain ⟨e1, e2, _⟩ := tri_inj e
  have := ok.2.2.2 x hx
  unfold okE at this ⊢
  rw [e1, e2]; exact this

theorem und_P {M : List Int} {t : Int} {m l : Nat} (hl : (und M t m).length = l * 3) (u v : Nat) : eP (und M t m) l u v ↔ ∃ x, x < m ∧ M.getD (x * 3 + 2) 0 ≤ t ∧ u = eU M x ∧ v = eV M x := by
  constructor
  · rintro ⟨i, hi, rfl, rfl⟩
    obtain ⟨x, hx, hx2, e⟩ := (und_get M t m l hl).1 i hi
    obtain ⟨e1, e2, _⟩ := tri_inj e
    exact ⟨x, hx, hx2, by unfold eU; rw [e1], by unfold eV; rw [e2]⟩
  · rintro ⟨x, hx, hx2, rfl, rfl⟩
    obtain ⟨i, hi, e⟩ := (und_get M t m l hl).2 x hx hx2
    obtain ⟨e1, e2, _⟩ := tri_inj e
    exact ⟨i, hi, by unfold eU; rw [e1], by unfold eV; rw [e2]⟩

theorem und_app {A B : List Int} {t : Int} : ∀ {k : Nat}, k * 3 ≤ A.length → und (A ++ B) t k = und A t k
  | 0, _ => rfl
  | k + 1, h => by
    rw [und_succ, und_succ, und_app (by omega)]
    unfold undE
    rw [tri_app (by omega), getD_app, if_pos (show k * 3 + 2 < A.length by omega)]

/-- Of a part the same part is left. -/
theorem und_und {M : List Int} {t e : Int} (h : t ≤ e) : ∀ (k l : Nat), (und M e k).length = l * 3 → und (und M e k) t l = und M t k := by
  intro k
  induction k with
  | zero => intro l hl; simp [und] at hl; obtain rfl : l = 0 := by omega
            rfl
  | succ k ih =>
    intro l hl
    obtain ⟨l0, h0, _⟩ := und_len M e k
    rw [und_succ] at hl ⊢
    rw [und_succ M t]
    unfold undE at hl ⊢
    by_cases c : M.getD (k * 3 + 2) 0 ≤ e
    · rw [if_pos c] at hl ⊢
      rw [List.length_append, h0] at hl
      simp only [tri, List.length_cons, List.length_nil] at hl
      obtain rfl : l = l0 + 1 := by omega
      have new : tri (und M e k ++ tri M k) l0 = tri M k := tri_at (B := []) h0
      rw [und_succ, und_app (by omega), ih l0 h0]
      unfold undE
      rw [new, (tri_inj new).2.2]
    · rw [if_neg c] at hl ⊢
      rw [List.append_nil] at hl ⊢
      rw [if_neg (by omega), List.append_nil]
      exact ih l hl

theorem set3 (A B : List Int) (x y z a b c : Int) : (((A ++ x :: y :: z :: B).set (A.length) a).set (A.length + 1) b).set (A.length + 2) c = A ++ a :: b :: c :: B := by
  induction A with
  | nil => rfl
  | cons w A ih => simp only [List.cons_append, List.length_cons] at ih ⊢; simp only [List.set_cons_succ, show A.length + 1 + 1 = (A.length + 1) + 1 from rfl, show A.length + 1 + 2 = (A.length + 2) + 1 from rfl]; rw [ih]

theorem cutrow {α : Type} {U Y R sp : List α} {a b : Nat} (hu : U.length = a) (hy : Y.length = b) : List.take a (U ++ Y ++ sp) ++ R ++ List.drop (a + b) (U ++ Y ++ sp) = U ++ (R ++ sp) := by
  rw [List.drop_left' (by rw [List.length_append, hu, hy]), List.append_assoc U Y sp, List.take_left' hu, List.append_assoc]

/-! ### The walk -/

theorem uf1_spec {h : Hp} {x y z t : Int} {c : Addr} (hc : h.cell c = some (.int .i64 t)) (hb : c.block < h.size) (K : Bool → Hp → Prop) (hK : ∀ h', Fr h.size h h' → K (decide (z > t)) h') : g_graph_Graph_Under_f1 x y z c h K := by
  unfold g_graph_Graph_Under_f1
  refine alo_of fun h2 z2 b2 k2 => ?_
  simp only [add_mk, Nat.zero_add]
  exact ldI_of (by rw [cell_own b2]; rfl) (ldI_of (by rw [cell_blk (h := h) (k2 _ hb)]; exact hc) (hK h2 ⟨by omega, k2⟩))

theorem idxF_spec {h : Hp} {s : Sl} {M : List Int} {t : Int} {c : Addr} (r : Rd h 3 s (ints M)) (hn : s.n < 2 ^ 40) (hc : h.cell c = some (.int .i64 t)) (hb : c.block < h.size) (K : Int → Hp → Prop)
    (h1 : ∀ h', Fr h.size h h' → (∀ i, i < s.n → M.getD (i * 3 + 2) 0 ≤ t) → K (-1) h') (h2 : ∀ h' (k : Nat), Fr h.size h h' → k < s.n → (∀ i, i < k → M.getD (i * 3 + 2) 0 ≤ t) → M.getD (k * 3 + 2) 0 > t → K (k : Nat) h') : g_slices_IndexFunc_api_Edge_of_graph_Graph_Under_f1 s c h K := by
  unfold g_slices_IndexFunc_api_Edge_of_graph_Graph_Under_f1
  refine for_of s.n (fun i (st : Int × Unit) g => st.1 = (i : Int) ∧ Fr h.size h g ∧ ∀ j, j < i → M.getD (j * 3 + 2) 0 ≤ t) ?_ ⟨rfl, Fr.refl _ _, fun j hj => by omega⟩
  rintro i Kr ⟨st, _⟩ g hi ⟨rfl, fg, hj⟩ hKr
  have zg := fg.size
  refine cnd_of (fun cc => ?_) fun cc => ?_
  · simp only [decide_eq_true_eq, Int.ofNat_eq_natCast] at cc
    have his : i < s.n := by omega
    refine rd3 (r.fr fg) his (uf1_spec (t := t) (by rw [cell_blk (fg.blk _ hb)]; exact hc) (by omega) _ fun h' f' => ?_)
    have F' : Fr h.size h h' := ⟨by have := f'.size; omega, fun y hy => by rw [f'.blk _ (by omega), fg.blk y hy]⟩
    refine cnd_of (fun c2 => ?_) fun c2 => ?_
    · simp only [decide_eq_true_eq] at c2
      exact h2 h' i F' his hj c2
    · simp only [decide_eq_false_iff_not] at c2
      refine hKr his _ _ ⟨?_, F', fun j hji => ?_⟩
      · simp only; rw [w64, w64s (by omega)]
      · by_cases e : j = i
        · subst e; omega
        · exact hj j (by omega)
  · simp only [decide_eq_false_iff_not, Int.ofNat_eq_natCast] at cc
    obtain rfl : i = s.n := by omega
    exact h1 g fg hj

theorem zrow3 (k : Nat) : zrow [.int .i64 0, .int .i64 0, .int .i64 0] k = ints (List.replicate (k * 3) 0) := by
  induction k with
  | zero => rfl
  | succ k ih => rw [show (k + 1) * 3 = k * 3 + 1 + 1 + 1 by omega]; simp only [zrow, List.replicate_succ, List.flatten_cons] at *; rw [ih]; rfl

set_option maxHeartbeats 2000000 in
theorem delF_spec {h : Hp} {s : Sl} {M : List Int} {t : Int} {c : Addr} {B m : Nat} (l : Lst h 3 s (ints M) B) (hn : s.n = m) (hm : m < 2 ^ 40) (hc : h.cell c = some (.int .i64 t)) (hb : c.block < B) (hB : B ≤ h.size) (K : Sl → Hp → Prop)
    (hK : ∀ s' h', Lst h' 3 s' (ints (und M t m)) B → Fr B h h' → K s' h') : g_slices_DeleteFunc_api_Edge_of_graph_Graph_Under_f1 s c h K := by
  have Ml := l.rd.ilen
  unfold g_slices_DeleteFunc_api_Edge_of_graph_Graph_Under_f1
  refine idxF_spec l.rd (by omega) hc (by omega) _ (fun h' f' ha => cnd_t rfl ?_) fun h' k f' hk hlow hk2 => cnd_f (by rw [beq_eq_false_iff_ne]; omega) ?_
  · refine hK s h' ?_ (f'.mono hB)
    rw [und_all (by omega) fun i hi => ha i (by omega), List.take_of_length_le (by omega)]
    exact l.fr f'
  rcases l.2.2 with ⟨e1, _⟩ | ⟨b, sp, sa, hBb, hbs, hblk, hsp⟩
  · rw [e1] at hk; simp at hk
  have zf := f'.size
  have hM : und M t k = M.take (k * 3) := und_all (by omega) hlow
  have sc := l.2.1
  refine jn_of (fun (st : Int × Unit) g => ∃ (i : Nat) (Y : List Int), st.1 = (i : Int) ∧ i < m ∧ (und M t m).length = i * 3 ∧ g.blk b = some (.cells (ints (und M t m ++ Y) ++ sp)) ∧ (und M t m ++ Y).length = m * 3 ∧ h.size ≤ g.size ∧ ∀ y, y < h.size → y ≠ b → g.blk y = h.blk y) ?_ fun K5 hK5 => ?_
  case refine_2 =>
    refine for_of (m - (k + 1)) (fun q (st : Int × Int × Unit) g => ∃ (i : Nat) (Y : List Int), st.1 = (i : Int) ∧ st.2.1 = ((k + 1 + q : Nat) : Int) ∧ i < k + 1 + q ∧ (und M t (k + 1 + q)).length = i * 3 ∧ g.blk b = some (.cells (ints (und M t (k + 1 + q) ++ Y) ++ sp)) ∧ (und M t (k + 1 + q) ++ Y).length = m * 3 ∧
      (∀ j, (k + 1 + q) * 3 ≤ j → (und M t (k + 1 + q) ++ Y).getD j 0 = M.getD j 0) ∧ h.size ≤ g.size ∧ ∀ y, y < h.size → y ≠ b → g.blk y = h.blk y) ?_ ?_
    · rintro q Kr ⟨_, _, _⟩ g hq ⟨i, Y, rfl, rfl, hik, hul, bg, hxl, hxg, zg, kg⟩ hKr
      have zs : b < g.size := by omega
      have rg : Rd g 3 s (ints (und M t (k + 1 + q) ++ Y)) := by
        refine ⟨?_, fun a ha _ => by rw [sa] at ha; cases ha; exact zs⟩
        rw [sa, seg_row (row_own bg) (by rw [List.length_append, ints_len, hxl]; omega), List.drop_zero, List.take_append_of_le_length (by rw [ints_len, hxl]; omega), List.take_of_length_le (by rw [ints_len, hxl]; omega)]
      refine cnd_of (fun cc => ?_) fun cc => ?_
      · simp only [decide_eq_true_eq, hn, Int.ofNat_eq_natCast] at cc
        have hjm : k + 1 + q < m := by omega
        have eq1 : w64 (((k + 1 + q : Nat) : Int) + 1) = ((k + 1 + (q + 1) : Nat) : Int) := by rw [w64, w64s (by omega)]; rfl
        refine rd3 rg (by omega) ?_
        rw [hxg _ (by omega), hxg _ (by omega), hxg _ (by omega)]
        refine tmp3 fun h3 z3 b3 k3 => ?_
        have f3 : Fr g.size g h3 := ⟨by omega, k3⟩
        simp only [add_mk, Nat.zero_add]
        refine ldI_of (by rw [cell_own b3]; rfl) (ldI_of (by rw [cell_own b3]; rfl) (ldI_of (by rw [cell_own b3]; rfl) ?_))
        have cb : c.block ≠ b := by omega
        refine uf1_spec (t := t) (by rw [cell_blk ((k3 _ (by omega)).trans (kg _ (by omega) cb))]; exact hc) (by omega) _ fun h4 f4 => ?_
        have z4 := f4.size
        have b4 : h4.blk g.size = _ := (f4.blk _ (by omega)).trans b3
        have k4 : ∀ y, y < g.size → h4.blk y = g.blk y := fun y hy => by rw [f4.blk _ (by omega), k3 y hy]
        refine cnd_of (fun c2 => ?_) fun c2 => ?_
        · simp only [Bool.not_eq_true', decide_eq_false_iff_not] at c2
          have hw : M.getD ((k + 1 + q) * 3 + 2) 0 ≤ t := by omega
          refine ldI_of (by rw [cell_own b4]; rfl) (ldI_of (by rw [cell_own b4]; rfl) (ldI_of (by rw [cell_own b4]; rfl) ?_))
          rw [sa]
          refine ix_of (by omega) (by omega) ?_
          simp only [add_mk, Nat.zero_add, Nat.add_zero, Int.toNat_natCast]
          have bg4 := (k4 b zs).trans bg
          obtain ⟨y0, y1, y2, Y', rfl⟩ : ∃ y0 y1 y2 Y', Y = y0 :: y1 :: y2 :: Y' := by
            rw [List.length_append, hul] at hxl
            match Y, hxl with
            | y0 :: y1 :: y2 :: Y', _ => exact ⟨y0, y1, y2, Y', rfl⟩
            | [], hxl => simp at hxl; omega
            | [_], hxl => simp at hxl; omega
            | [_, _], hxl => simp at hxl; omega
          have lenb : (ints (und M t (k + 1 + q) ++ y0 :: y1 :: y2 :: Y') ++ sp).length = m * 3 + sp.length := by rw [List.length_append, ints_len, hxl]
          refine stc_of bg4 (by omega) fun h5 z5 b5 k5 => stc_of b5 (by rw [List.length_set]; omega) fun h6 z6 b6 k6 => stc_of b6 (by rw [List.length_set, List.length_set]; omega) fun h7 z7 b7 k7 => ?_
          have lu : (ints (und M t (k + 1 + q) ++ y0 :: y1 :: y2 :: Y')).length = m * 3 := by rw [ints_len, hxl]
          rw [List.set_append_left _ _ (by omega), List.set_append_left _ _ (by rw [List.length_set]; omega), List.set_append_left _ _ (by rw [List.length_set, List.length_set]; omega), ints_set, ints_set, ints_set, ← hul, set3] at b7
          have un : und M t (k + 1 + (q + 1)) = und M t (k + 1 + q) ++ tri M (k + 1 + q) := by
            rw [show k + 1 + (q + 1) = (k + 1 + q) + 1 from rfl, und_succ]
            unfold undE
            rw [if_pos hw]
          have eY : und M t (k + 1 + (q + 1)) ++ Y' = und M t (k + 1 + q) ++ M.getD ((k + 1 + q) * 3 + 0) 0 :: M.getD ((k + 1 + q) * 3 + 1) 0 :: M.getD ((k + 1 + q) * 3 + 2) 0 :: Y' := by
            rw [un, List.append_assoc]; rfl
          have ei : w64 ((i : Int) + 1) = ((i + 1 : Nat) : Int) := by rw [w64, w64s (by omega)]
          rw [ei, eq1]
          refine hKr (by omega) _ _ ⟨i + 1, Y', rfl, rfl, by omega, ?_, by rw [eY]; exact b7, ?_, fun j hj => ?_, by omega, fun y hy hne => by rw [k7 _ hne, k6 _ hne, k5 _ hne, k4 y (by omega), kg y hy hne]⟩
          · rw [un, List.length_append, hul]; simp only [tri, List.length_cons, List.length_nil]; omega
          · rw [eY]; simp only [List.length_append, List.length_cons] at hxl ⊢; omega
          · have := hxg j (by omega)
            rw [eY, getD_app, if_neg (by omega)]
            rw [getD_app, if_neg (by omega)] at this
            rw [← this]
            obtain ⟨d, hd⟩ : ∃ d, j - (und M t (k + 1 + q)).length = d + 3 := ⟨j - (und M t (k + 1 + q)).length - 3, by omega⟩
            rw [hd]; rfl
        · simp only [Bool.not_eq_false', decide_eq_true_eq] at c2
          have un : und M t (k + 1 + (q + 1)) = und M t (k + 1 + q) := by
            rw [show k + 1 + (q + 1) = (k + 1 + q) + 1 from rfl, und_succ]
            unfold undE
            rw [if_neg (by omega), List.append_nil]
          rw [eq1]
          refine hKr (by omega) _ _ ⟨i, Y, rfl, rfl, by omega, by rw [un]; exact hul, by rw [un, k4 b zs]; exact bg, by rw [un]; exact hxl, fun j hj => by rw [un]; exact hxg j (by omega), by omega, fun y hy hne => by rw [k4 y (by omega), kg y hy hne]⟩
      · simp only [decide_eq_false_iff_not, hn, Int.ofNat_eq_natCast] at cc
        have e : k + 1 + q = m := by omega
        rw [e] at hik hul bg hxl
        exact hK5 _ _ ⟨i, Y, rfl, hik, hul, bg, hxl, zg, kg⟩
    · have un : und M t (k + 1 + 0) = M.take (k * 3) := by
        rw [show k + 1 + 0 = k + 1 from rfl, und_succ, hM]
        unfold undE
        rw [if_neg (by omega), List.append_nil]
      have tl : (M.take (k * 3)).length = k * 3 := by rw [List.length_take]; omega
      refine ⟨k, M.drop (k * 3), rfl, ?_, by omega, by rw [un, tl], ?_, ?_, fun j hj => ?_, by omega, fun y hy _ => f'.blk y hy⟩
      · show w64 ((k : Int) + 1) = _
        rw [w64, w64s (by omega)]
      · rw [un, List.take_append_drop, f'.blk _ hbs]; exact hblk
      · rw [un, List.take_append_drop]; omega
      · rw [un, List.take_append_drop]
  rintro ⟨_, _⟩ g ⟨i, Y, rfl, him, hul, bg, hxl, zg, kg⟩
  have hscm : m ≤ s.c := by omega
  simp only [Int.ofNat_eq_natCast]
  refine ⟨by omega, by omega, by omega, Int.le_refl _, ?_⟩
  have Yl : Y.length = (m - i) * 3 := by rw [List.length_append, hul] at hxl; omega
  have tot : (ints (und M t m ++ Y) ++ sp).length = s.c * 3 := by rw [List.length_append, ints_len, hxl, ← hsp, List.length_append, ints_len]; omega
  have e0 : ¬ ((s.c : Int) = (i : Int)) := by omega
  simp only [if_neg e0, sa, Option.map_some, add_mk, Nat.zero_add, Int.toNat_natCast]
  refine ⟨fun q => ?_, fun a ha hp => ?_⟩
  · rcases q with q | q
    · cases q
    · simp only at q; omega
  · cases ha
    have nn : Int.toNat ((s.n : Int) - (i : Int)) = m - i := by omega
    simp only [nn]
    refine ⟨trivial, ⟨_, bg, by omega⟩, ?_⟩
    obtain ⟨q1, q2, q3⟩ := setl_blk (o := i * 3) (zrow [.int .i64 0, .int .i64 0, .int .i64 0] (m - i)) 0 bg (by rw [zrow3, ints_len, List.length_replicate]; omega)
    refine ⟨by omega, by omega, by omega, Int.le_refl _, ?_⟩
    have e1 : (if (s.c : Int) = 0 then some (⟨b, 0, none⟩ : Addr) else some ⟨b, 0, none⟩) = some ⟨b, 0, none⟩ := by split <;> rfl
    have e2 : Int.toNat ((i : Int) - 0) = i := by omega
    have e3 : Int.toNat ((s.c : Int) - 0) = s.c := by omega
    simp only [Int.toNat_zero, Nat.zero_mul, e1, e2, e3]
    refine hK _ _ ⟨by rw [ints_len, hul], by simp only; omega, .inr ⟨b, ints (List.replicate ((m - i) * 3) 0) ++ sp, rfl, hBb, by rw [q1]; omega, ?_, ?_⟩⟩ ⟨by rw [q1]; omega, fun y hy => by rw [q3 y (by omega), kg y (by omega) (by omega)]⟩
    · rw [q2, zrow3]
      rw [ints_len, List.length_replicate, Nat.add_zero, ints_app, cutrow (by rw [ints_len, hul]) (by rw [ints_len, Yl])]
    · rw [List.length_append, List.length_append, ints_len, ints_len, hul, List.length_replicate]
      rw [List.length_append, ints_len, hxl] at tot
      simp only; omega

theorem gUnder_spec {h : Hp} {o : GOb} {n m : Nat} {M : List Int} (d : GS h o n m M) (t : Int) (K : Option Addr → Hp → Prop)
    (hK : ∀ o' m' h', (und M t m).length = m' * 3 → GS h' o' n m' (und M t m) → h.size ≤ o'.lo → Fr h.size h h' → K (some ⟨o'.a, 0, none⟩) h') : g_graph_Graph_Under (some ⟨o.a, 0, none⟩) t h K := by
  obtain ⟨nb1, nb2⟩ := d.nb
  unfold g_graph_Graph_Under
  refine alo_of fun h2 z2 b2 k2 => ?_
  have f2 : Fr h.size h h2 := ⟨by omega, k2⟩
  have d2 := d.fr f2
  refine gValid_spec d2 _ (cnd_f rfl (nn_of ?_))
  simp only [add_mk, Nat.zero_add]
  refine ldI_of (by rw [d2.cell]; rfl) (nn_of ?_)
  simp only [add_mk, Nat.zero_add]
  refine ldS_of (p := o.e.a) (n := o.e.n) (c := o.e.c) (by rw [d2.cell]; rfl) (CloneE_spec d2.le.rd (by rw [d2.en]; omega) _ fun r9 h10 n9 l9 f10 => ?_)
  have z10 := f10.size
  refine ⟨by rw [(d2.fr f10).cell]; rfl, ?_⟩
  refine delF_spec (m := m) l9 (n9.trans d2.en) (by omega) (t := t) (by rw [cell_own ((f10.blk _ (by omega)).trans b2)]; rfl) (by simp only; omega) (by omega) _ fun r11 h12 l12 f12 => ?_
  have z12 := f12.size
  refine ⟨by rw [((d2.fr f10).keep f12.size fun c _ hc => f12.blk c (by have := d2.hi; omega)).cell]; rfl, ?_⟩
  obtain ⟨m', hm', _⟩ := und_len M t m
  have rn : r11.n = m' := by have := l12.1; rw [ints_len, hm'] at this; omega
  refine build_spec n m' r11 (und M t m) h2.size h12 l12 (by omega) rn (und_gok d.ok hm') _ fun h14 o' d14 lo f14 => ?_
  have z14 := f14.size
  exact hK o' m' h14 hm' d14 (by omega) ⟨by omega, fun y hy => by rw [f14.blk _ (by omega), f12.blk _ (by omega), f10.blk _ (by omega), k2 y hy]⟩

set_option maxHeartbeats 1000000 in
theorem rgUnder_spec {h : Hp} {a : Nat} {e : Sl} {n m : Nat} {M : List Int} {B : Nat} (d : RG h a e n m M B) (t : Int) (K : Option Addr → Hp → Prop)
    (hK : ∀ a' e' m' h', (und M t m).length = m' * 3 → RG h' a' e' n m' (und M t m) h.size → Fr h.size h h' → K (some ⟨a', 0, none⟩) h') : g_ref13_Graph_Under (some ⟨a, 0, none⟩) t h K := by
  have hm := d.ok.2.2.1
  have he := d.en
  have dia := d.ia
  unfold g_ref13_Graph_Under
  refine rgValid_spec d _ (cnd_f rfl (nn_of ?_))
  simp only [add_mk, Nat.zero_add]
  refine ldI_of (by rw [d.cell]; rfl) (alo_of fun h6 z6 b6 k6 => ?_)
  have f6 : Fr h.size h h6 := ⟨by omega, k6⟩
  refine for_of m (fun i (st : Int × Unit) g => st.1 = (i : Int) ∧ Fr h.size h g ∧ h6.size ≤ g.size ∧ ∃ s : Sl, g.blk h.size = some (.cells [.bool true, .int .i64 (n : Nat), .slice s.a s.n s.c]) ∧ Lst g 3 s (ints (und M t i)) h6.size) ?_ ⟨rfl, f6, Nat.le_refl _, ⟨none, 0, 0⟩, b6, Lst.nil _ _ _⟩
  rintro i Kr ⟨st, _⟩ g hi ⟨rfl, fg, zg, s, bs, ls⟩ hKr
  have dg := d.fr fg
  refine nn_of ?_
  simp only [add_mk, Nat.zero_add]
  refine ldS_of (p := e.a) (n := e.n) (c := e.c) (by rw [dg.cell]; rfl) (cnd_of (fun c => ?_) fun c => ?_)
  rotate_left
  · simp only [decide_eq_false_iff_not, he, Int.ofNat_eq_natCast] at c
    obtain rfl : i = m := by omega
    obtain ⟨m', hm', _⟩ := und_len M t i
    have sn : s.n = m' := by have := ls.1; rw [ints_len, hm'] at this; omega
    exact hK h.size s m' g hm' ⟨bs, ls.le (by omega), sn, und_gok d.ok hm', Nat.le_refl _, by omega⟩ fg
  simp only [decide_eq_true_eq, he, Int.ofNat_eq_natCast] at c
  have him : i < m := by omega
  have hie : i < e.n := by omega
  have ei : w64 ((i : Int) + 1) = ((i + 1 : Nat) : Int) := by rw [w64, w64s (by omega)]
  refine nn_of ?_
  simp only [add_mk, Nat.zero_add]
  refine ldS_of (p := e.a) (n := e.n) (c := e.c) (by rw [dg.cell]; rfl) (rd3k (s := e) dg.le.rd hie (by omega) (cnd_of (fun c2 => nn_of ?_) fun c2 => ?_))
  rotate_left
  · simp only [decide_eq_false_iff_not] at c2
    rw [ei]
    refine hKr him _ _ ⟨rfl, fg, zg, s, bs, ?_⟩
    rw [und_succ]
    unfold undE
    rw [if_neg c2, List.append_nil]; exact ls
  simp only [decide_eq_true_eq] at c2
  simp only [add_mk, Nat.zero_add]
  refine ldS_of (p := s.a) (n := s.n) (c := s.c) (by rw [cell_own bs]; rfl) (nn_of ?_)
  simp only [add_mk, Nat.zero_add]
  refine ldS_of (p := e.a) (n := e.n) (c := e.c) (by rw [dg.cell]; rfl) (rd3 (s := e) dg.le.rd hie (alo_of fun h25 z25 b25 k25 => ⟨?_, ?_⟩))
  · rw [cell_own ((k25 _ (by omega)).trans bs)]; rfl
  have f25 : Fr g.size g h25 := ⟨by omega, k25⟩
  obtain ⟨l0, hl0, hl1⟩ := und_len M t i
  have sn : s.n = l0 := by have := ls.1; rw [ints_len, hl0] at this; omega
  refine app_lst (news := ints (tri M i)) (ls.fr f25).eta (by omega) (rd_row (n := 1) (c := 1) (z := 3) b25 (by omega) rfl).1 (ints_one _) rfl (by simp only; omega) (by simp only; omega) fun s' h27 l27 n27 z27 f27 k27 _ => nn_of ?_
  have b27 : h27.blk h.size = some (.cells [.bool true, .int .i64 (n : Nat), .slice s.a s.n s.c]) := by rw [f27.blk _ (by omega), k25 _ (by omega)]; exact bs
  simp only [add_mk, Nat.zero_add]
  refine stc_of b27 (by simp) fun h29 z29 b29 k29 => ?_
  simp only [List.set_cons_zero, List.set_cons_succ] at b29
  rw [ei]
  refine hKr him _ _ ⟨rfl, ⟨by omega, fun y hy => by rw [k29 _ (by omega), f27.blk _ (by omega), k25 _ (by omega), fg.blk y hy]⟩, by omega, s', b29, ?_⟩
  rw [und_succ]
  unfold undE
  rw [if_pos c2, ints_app]
  exact l27.keep (by omega) fun x hx => k29 _ (by have := (l27.blk_lt hx).1; omega)

theorem rgUnder_nil (t : Int) (h : Hp) (K : Option Addr → Hp → Prop) (hK : K none h) : g_ref13_Graph_Under none t h K := by
  unfold g_ref13_Graph_Under
  exact rgValid_nil h _ (cnd_t rfl hK)

end Go.Hx
