/- Links: edges between the first vertices. No condition. -/
import Derived.Test.YthohhnnjpaepnaaHxGrN
import Derived.Test.YthohhnnjpaepnaaHxRow
namespace Go.Hx
set_option linter.unusedSimpArgs false
set_option linter.unusedVariables false

/-- The number of a cell. -/
def num (v : Option Value) : Int := match v with
  | some (.int _ x) => x
  | _ => 0
@[simp] theorem num_int (k : IntKind) (x : Int) : num (some (.int k x)) = x := rfl

/-- The cells of links. -/
def LkC (C : List Value) (k : Nat) : Prop := ∀ i, i < k → C[i * 3 + 0]? = some (.int .u8 (num C[i * 3 + 0]?)) ∧ C[i * 3 + 1]? = some (.int .u8 (num C[i * 3 + 1]?)) ∧ C[i * 3 + 2]? = some (.int .i8 (num C[i * 3 + 2]?)) ∧
  (0 ≤ num C[i * 3 + 0]? ∧ num C[i * 3 + 0]? ≤ 255) ∧ (0 ≤ num C[i * 3 + 1]? ∧ num C[i * 3 + 1]? ≤ 255) ∧ -128 ≤ num C[i * 3 + 2]? ∧ num C[i * 3 + 2]? ≤ 127

theorem lkC {C : List Value} {k : Nat} (hm : ∀ i j l, i < k → [LK.int .u8, .int .u8, .int .i8][j]? = some l → ∃ v, C[i * 3 + j]? = some v ∧ okCell l v) : LkC C k := by
  intro i hi
  obtain ⟨_, h0, x0, rfl, w0⟩ := hm i 0 _ hi rfl
  obtain ⟨_, h1, x1, rfl, w1⟩ := hm i 1 _ hi rfl
  obtain ⟨_, h2, x2, rfl, w2⟩ := hm i 2 _ hi rfl
  rw [h0, h1, h2]
  simp only [num_int]
  refine ⟨trivial, trivial, trivial, ?_⟩
  have u1 : IntKind.u8.min = 0 := rfl
  have u2 : IntKind.u8.max = 255 := rfl
  have i1 : IntKind.i8.min = -128 := rfl
  have i2 : IntKind.i8.max = 127 := rfl
  simp only [Lit.wf, Bool.and_eq_true, decide_eq_true_eq] at w0 w1 w2
  omega

/-- The edge of a link; none from a vertex to itself. -/
def bltE (C : List Value) (n i : Nat) : List Int :=
  if num C[i * 3 + 0]? % (n : Int) = num C[i * 3 + 1]? % (n : Int) then [] else [num C[i * 3 + 0]? % (n : Int), num C[i * 3 + 1]? % (n : Int), num C[i * 3 + 2]?]
def blt (C : List Value) (n : Nat) : Nat → List Int
  | 0 => []
  | k + 1 => blt C n k ++ bltE C n k

theorem blt_len (C : List Value) (n k : Nat) : (blt C n k).length % 3 = 0 ∧ (blt C n k).length ≤ 3 * k := by
  induction k with
  | zero => exact ⟨rfl, Nat.le_refl _⟩
  | succ k ih =>
    unfold blt bltE
    split
    · rw [List.append_nil]; omega
    · rw [List.length_append]; simp only [List.length_cons, List.length_nil]; omega

theorem getD_app (l r : List Int) (i : Nat) : (l ++ r).getD i 0 = if i < l.length then l.getD i 0 else r.getD (i - l.length) 0 := by
  simp only [List.getD, List.getElem?_append]
  split <;> rfl

theorem okE_app {n : Int} {l r : List Int} {j : Nat} (h : j * 3 + 2 < l.length) : okE n (l ++ r) j ↔ okE n l j := by
  unfold okE
  rw [getD_app, getD_app, if_pos (by omega), if_pos (by omega)]

theorem blt_ok (C : List Value) {n : Nat} (hn : 0 < n) (k : Nat) : ∀ j, j * 3 + 2 < (blt C n k).length → okE (n : Int) (blt C n k) j := by
  induction k with
  | zero => intro j hj; simp [blt] at hj
  | succ k ih =>
    intro j hj
    have hl := (blt_len C n k).1
    by_cases hb : j * 3 + 2 < (blt C n k).length
    · exact (okE_app hb).2 (ih j hb)
    · unfold blt bltE at hj ⊢
      split at hj
      · rw [List.append_nil] at hj; exact absurd hj hb
      · rename_i hne
        rw [if_neg hne]
        rw [List.length_append] at hj
        simp only [List.length_cons, List.length_nil] at hj
        have e : j * 3 = (blt C n k).length := by omega
        have m1 := Int.emod_nonneg (num C[k * 3 + 0]?) (show (n : Int) ≠ 0 by omega)
        have m2 := Int.emod_lt_of_pos (num C[k * 3 + 0]?) (show 0 < (n : Int) by omega)
        have m3 := Int.emod_nonneg (num C[k * 3 + 1]?) (show (n : Int) ≠ 0 by omega)
        have m4 := Int.emod_lt_of_pos (num C[k * 3 + 1]?) (show 0 < (n : Int) by omega)
        unfold okE
        rw [getD_app, getD_app, if_neg (by omega), if_neg (by omega), show j * 3 + 0 - (blt C n k).length = 0 by omega, show j * 3 + 1 - (blt C n k).length = 1 by omega]
        exact ⟨⟨m1, m2, m3, m4⟩, hne⟩

theorem blt_gok (C : List Value) {n m : Nat} (hn : 0 < n) (hn2 : n ≤ 4096) (k : Nat) (hk : k ≤ 16384) (hm : (blt C n k).length = m * 3) : GOk (n : Int) m (blt C n k) := by
  have := (blt_len C n k).2
  exact ⟨by omega, by omega, by omega, fun i hi => blt_ok C hn k i (by omega)⟩

theorem ix_cell {h : Hp} {z : Nat} {s : Sl} {cs : List Value} {i : Nat} {K : Addr → Prop} (r : Rd h z s cs) (hz : 0 < z) (hi : i < s.n) (H : ∀ x : Addr, x.spot = none → (∀ k, k < z → h.cell (x.add (i * z + k)) = cs[i * z + k]?) → K x) : ix s.a s.n (i : Int) K := by
  have hlt : ∀ k, k < z → i * z + k < s.n * z := fun k hk => by
    have : (i + 1) * z ≤ s.n * z := Nat.mul_le_mul_right _ hi
    rw [Nat.add_mul] at this; omega
  exact ix_seg r.1 (by have := hlt 0 hz; omega) (by omega) (by omega) fun x hx hs hc => H x hs fun k hk => hc _ (hlt k hk)

theorem w64u8 {x : Int} (h : 0 ≤ x ∧ x ≤ 255) : w64 x = x := by rw [w64, w64_eq (by omega) (by omega)]
theorem tmod_pos {x n : Int} (h : 0 ≤ x) : Int.tmod x n = x % n := Int.tmod_eq_emod_of_nonneg h

theorem Built_spec {C : List Value} {n : Nat} {s : Sl} {h : Hp} (hn : 0 < n ∧ n ≤ 4096) (r : Rd h 3 s C) (hs : s.n ≤ 2 ^ 30) (hC : LkC C s.n) (K : Sl → Hp → Prop)
    (hK : ∀ s' h', Lst h' 3 s' (ints (blt C n s.n)) h.size → Fr h.size h h' → K s' h') : g_law13_Built (n : Int) s h K := by
  unfold g_law13_Built
  refine for_of s.n (fun i (t : Sl × Int × Unit) g => t.2.1 = (i : Int) ∧ Lst g 3 t.1 (ints (blt C n i)) h.size ∧ Fr h.size h g) ?_ ⟨rfl, Lst.nil _ _ _, Fr.refl _ _⟩
  rintro i Kr ⟨t, st, _⟩ g hi ⟨rfl, hl, fg⟩ hKr
  have zg := fg.size
  simp only
  refine cnd_of (fun c => ?_) fun c => ?_
  rotate_left
  · simp only [decide_eq_false_iff_not, Int.ofNat_eq_natCast] at c
    obtain rfl : i = s.n := by omega
    exact hK _ _ hl fg
  simp only [decide_eq_true_eq, Int.ofNat_eq_natCast] at c
  have his : i < s.n := by omega
  obtain ⟨c0, c1, c2, b0, b1, b2⟩ := hC i his
  have rg := r.fr fg
  have ei : w64 ((i : Int) + 1) = ((i + 1 : Nat) : Int) := by rw [w64, w64s (by omega)]
  have tl := hl.1
  simp only [ints_len] at tl
  have bl := (blt_len C n i).2
  refine cnd_t (by simp only [decide_eq_true_eq]; omega) ?_
  refine ix_cell rg (by omega) his fun x hx hc => ?_
  simp only [Int.toNat_natCast, add_add _ _ _ hx]
  refine ldI_of ((hc 0 (by omega)).trans c0) ⟨by omega, ix_cell rg (by omega) his fun y hy hd => ?_⟩
  simp only [add_add _ _ _ hy]
  refine ldI_of ((hd 1 (by omega)).trans c1) ⟨by omega, ?_⟩
  rw [w64u8 b0, w64u8 b1, tmod_pos b0.1, tmod_pos b1.1]
  refine cnd_of (fun c => ?_) fun c => ?_
  · simp only [bne_iff_ne, ne_eq] at c
    refine ix_cell rg (by omega) his fun z hz hc => ?_
    simp only [add_add _ _ _ hz]
    refine ldI_of ((hc 2 (by omega)).trans c2) ?_
    have ew : w64 (num C[i * 3 + 2]?) = num C[i * 3 + 2]? := by rw [w64, w64_eq (by omega) (by omega)]
    rw [ew]
    refine alo_of fun g2 z2 bb2 k2 => ?_
    have f2 : Fr g.size g g2 := ⟨by omega, k2⟩
    refine app_lst (news := ints [num C[i * 3 + 0]? % (n : Int), num C[i * 3 + 1]? % (n : Int), num C[i * 3 + 2]?]) (hl.fr f2).eta (by omega) (rd_row (n := 1) (c := 1) (z := 3) bb2 (by omega) rfl).1 (ints_one _) rfl (by simp only; omega) (by simp only; omega) fun s' g3 l3 n3 z3 f3 _ _ => ?_
    rw [ei]
    refine hKr his _ _ ⟨rfl, ?_, ⟨by omega, fun y hy => by rw [f3.blk _ (by omega), k2 _ (by omega), fg.blk _ hy]⟩⟩
    show Lst g3 3 s' (ints (blt C n i ++ bltE C n i)) h.size
    unfold bltE
    rw [if_neg c, ints_app]
    exact l3
  · simp only [bne_eq_false_iff_eq] at c
    rw [ei]
    refine hKr his _ _ ⟨rfl, ?_, fg⟩
    show Lst g 3 t (ints (blt C n i ++ bltE C n i)) h.size
    unfold bltE
    rw [if_pos c, List.append_nil]
    exact hl

theorem made_spec {C : List Value} {s : Sl} {h : Hp} (r : Rd h 3 s C) (hs : s.n ≤ 150) (hC : LkC C s.n) (K : Option Addr → Hp → Prop)
    (hK : ∀ o m h', (blt C 40 s.n).length = m * 3 → m ≤ 150 → GS h' o 40 m (blt C 40 s.n) → h.size ≤ o.lo → Fr h.size h h' → K (some ⟨o.a, 0, none⟩) h') : g_law13_made s h K := by
  unfold g_law13_made
  refine Built_spec (n := 40) (by omega) r (by omega) hC _ fun t h2 l2 f2 => ?_
  have tl := l2.1
  simp only [ints_len] at tl
  have bl := (blt_len C 40 s.n).2
  have z2 := f2.size
  refine gNew_spec 40 t _ h2 l2.rd _ (fun e h' _ ge => absurd (show GOk 40 t.n (blt C 40 s.n) from blt_gok (n := 40) C (by omega) (by omega) s.n (by omega) tl.symm) ge.not) fun N h3 o eN _ d lo f3 => ?_
  obtain rfl : N = 40 := by omega
  have z3 := f3.size
  exact cnd_f rfl (hK o t.n h3 tl.symm (by omega) d (by omega) ⟨by omega, fun c hc => by rw [f3.blk _ (by omega), f2.blk _ hc]⟩)

end Go.Hx
