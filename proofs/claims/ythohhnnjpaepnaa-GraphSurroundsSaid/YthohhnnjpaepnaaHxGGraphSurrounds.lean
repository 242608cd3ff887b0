/- GraphSurrounds over the abstract heap. -/
import Derived.Test.YthohhnnjpaepnaaHxW2
import Derived.Test.YthohhnnjpaepnaaHxGGraphNil
import Derived.Test.YthohhnnjpaepnaaHxGGraphKnown
namespace Go.Hx
set_option linter.unusedSimpArgs false
set_option linter.unusedVariables false

theorem arH_succ (M : List Int) (v i : Nat) : arH M (i + 1) v = arH M i v ++ (if eU M i = v then [2 * i] else []) ++ if eV M i = v then [2 * i + 1] else [] := by
  unfold arH
  rw [show 2 * (i + 1) = 2 * i + 1 + 1 by omega, List.range_succ, List.range_succ, List.filter_append, List.filter_append]
  congr 1
  · congr 1
    · refine List.filter_congr fun j hj => ?_
      have hj := List.mem_range.1 hj
      rw [VX_gt (by omega), VX_gt (by omega)]
    · have e : gt (VX M (i + 1)) (2 * i) = eU M i := VX_u (by omega)
      by_cases c : eU M i = v
      · rw [if_pos c, List.filter_cons_of_pos (by rw [e]; simpa using c)]; rfl
      · rw [if_neg c, List.filter_cons_of_neg (by rw [e]; simpa using c)]; rfl
  · have e : gt (VX M (i + 1)) (2 * i + 1) = eV M i := VX_v (by omega)
    by_cases c : eV M i = v
    · rw [if_pos c, List.filter_cons_of_pos (by rw [e]; simpa using c)]; rfl
    · rw [if_neg c, List.filter_cons_of_neg (by rw [e]; simpa using c)]; rfl

theorem hE_e (i : Nat) : hE (2 * i) = (i : Nat) ∧ hE (2 * i + 1) = (i : Nat) := by unfold hE; omega
theorem hV_e (M : List Int) (i : Nat) : hV M (2 * i) = (eV M i : Nat) ∧ hV M (2 * i + 1) = (eU M i : Nat) := by
  unfold hV VO
  rw [if_pos (by omega), if_neg (by omega), show 2 * i / 2 = i by omega, show (2 * i + 1) / 2 = i by omega]
  exact ⟨rfl, rfl⟩

theorem arH_few {n m v : Nat} {M : List Int} (ok : ∀ i, i < m → okE (n : Int) M i) : (arH M m v).length ≤ m := by
  rw [arH_len]
  unfold szp
  rw [VX_len, VX_cnt _ _ _ _ (Nat.le_refl _), ← cntB_or (r := fun j => (eU M j == v) || (eV M j == v)) (fun _ _ => rfl) fun i hi h => ?_]
  · exact cntB_le _ _
  · obtain ⟨h1, h2⟩ := h
    rw [beq_iff_eq] at h1 h2
    exact (ok i hi).lt.2.2.1 (h1.trans h2.symm)

section
variable {h : Hp} {a : Nat} {e : Sl} {n m : Nat} {M : List Int} {B : Nat}

set_option maxHeartbeats 1000000 in
theorem rgAround_spec (d : RG h a e n m M B) (v : Int) (K : Sl → Hp → Prop)
    (hK : ∀ s h' P, (¬ (0 ≤ v ∧ v < (n : Int)) → P = []) → (∀ u : Nat, v = u → u < n → P = arH M m u) → Lst h' 2 s (ints (fl2 hE (hV M) P)) h.size → s.n = P.length → Fr h.size h h' → K s h') : g_ref13_Graph_Around (some ⟨a, 0, none⟩) v h K := by
  obtain ⟨-, gn, gm, gok⟩ := id d.ok
  unfold g_ref13_Graph_Around
  refine rgHas_spec d v _ (cnd_of (fun c => ?_) fun c => ?_)
  · have c' : ¬ (0 ≤ v ∧ v < (n : Int)) := by simp at c; omega
    exact hK _ h [] (fun _ => rfl) (fun u hu hun => absurd ⟨by omega, by omega⟩ c') (Lst.nil _ _ _) rfl (Fr.refl _ _)
  simp only [Bool.not_eq_false', decide_eq_true_eq] at c
  obtain ⟨u, rfl⟩ : ∃ u : Nat, v = u := ⟨v.toNat, by omega⟩
  have hun : u < n := by omega
  refine for_of m (fun i (t : Sl × Int × Unit) g => t.2.1 = (i : Int) ∧ Fr h.size h g ∧ Lst g 2 t.1 (ints (fl2 hE (hV M) (arH M i u))) h.size) ?_ ⟨rfl, Fr.refl _ _, Lst.nil _ _ _⟩
  rintro i Kr ⟨t, _, _⟩ g hi ⟨rfl, fg, lg⟩ hKr
  have zg := fg.size
  have dg := d.fr fg
  refine nn_of ?_
  simp only [add_mk, Nat.zero_add]
  have rdE : ∀ {g : Hp} {K : Sl → Prop}, Fr h.size h g → K ⟨e.a, e.n, e.c⟩ → ldS g ⟨a, 2, none⟩ K := fun fg hk => ldS_of (p := e.a) (n := e.n) (c := e.c) (by rw [(d.fr fg).cell]; rfl) hk
  refine rdE fg (cnd_of (fun c => ?_) fun c => ?_)
  rotate_left
  · simp only [decide_eq_false_iff_not, d.en, Int.ofNat_eq_natCast] at c
    obtain rfl : i = m := by omega
    have tn : t.n = (arH M i u).length := by have := lg.1; rw [ints_len, fl2_len] at this; simp only at this; omega
    exact hK t g _ (fun q => absurd ⟨by omega, by omega⟩ q) (fun u' hu' _ => by rw [show u' = u by omega]) lg tn fg
  simp only [decide_eq_true_eq, d.en, Int.ofNat_eq_natCast] at c
  have him : i < m := by omega
  have hie : i < e.n := by rw [d.en]; exact him
  obtain ⟨hu, hv, hne, e1, e2⟩ := (gok i him).lt
  obtain ⟨hE0, hE1⟩ := hE_e i
  obtain ⟨hV0, hV1⟩ := hV_e M i
  have ei : w64 ((i : Int) + 1) = ((i + 1 : Nat) : Int) := by rw [w64, w64s (by omega)]
  have alen := arH_few (m := i) (v := u) (n := n) (M := M) fun j hj => gok j (by omega)
  -- one more pair
  have app : ∀ (g : Hp) (s : Sl) (P : List Nat) (x : Nat) (p q : Int) (K : Sl → Hp → Prop), Fr h.size h g → Lst g 2 s (ints (fl2 hE (hV M) P)) h.size → P.length ≤ 2 ^ 30 → hE x = p → hV M x = q → (∀ s' g', Fr h.size h g' → Lst g' 2 s' (ints (fl2 hE (hV M) (P ++ [x]))) h.size → K s' g') →
      alo g [.int .i64 p, .int .i64 q] fun a19 h20 => app 2 16 [.int .i64 0, .int .i64 0] ⟨s.a, s.n, s.c⟩ ⟨some a19, 1, 1⟩ h20 fun s21 h22 => K s21 h22 := fun g s P x p q K fg ls hP hp hq hk => by
    have sl := ls.1
    rw [ints_len, fl2_len] at sl
    have zg := fg.size
    refine alo_of fun g2 z2 b2 k2 => ?_
    have f2 : Fr g.size g g2 := ⟨by omega, k2⟩
    refine app_lst (news := ints [p, q]) (ls.fr f2).eta (by omega) (rd_row (n := 1) (c := 1) (z := 2) b2 (by omega) rfl).1 (ints_one _) rfl (by simp only; omega) (by simp only; omega) fun s' g3 l3 n3 z3 f3 _ _ => hk s' g3 ⟨by omega, fun y hy => by rw [f3.blk _ hy, k2 _ (by omega), fg.blk y hy]⟩ ?_
    rw [fl2_snoc, hp, hq, ints_app]; exact l3
  have asuc := arH_succ M u i
  refine jn_of (fun (t' : Sl × Unit) g' => Fr h.size h g' ∧ Lst g' 2 t'.1 (ints (fl2 hE (hV M) (arH M i u ++ if eU M i = u then [2 * i] else []))) h.size) ?_ fun K10 hK10 => ?_
  case refine_2 =>
    refine nn_of ?_
    simp only [add_mk, Nat.zero_add]
    refine rdE fg (rd3k (s := e) dg.le.rd hie (by omega) ?_)
    rw [e1]
    refine cnd_of (fun cc => nn_of ?_) fun cc => ?_
    · rw [beq_iff_eq] at cc
      have cu : eU M i = u := by omega
      simp only [add_mk, Nat.zero_add]
      refine rdE fg (rd3k (s := e) dg.le.rd hie (by omega) ?_)
      rw [e2]
      refine app g t (arH M i u) (2 * i) _ _ _ fg lg (by omega) hE0 hV0 fun s' g' fg' lg' => hK10 _ _ ⟨fg', ?_⟩
      rw [if_pos cu]; exact lg'
    · rw [beq_eq_false_iff_ne] at cc
      refine hK10 _ _ ⟨fg, ?_⟩
      rw [if_neg (by omega), List.append_nil]; exact lg
  rintro ⟨t', _⟩ g' ⟨fg', lg'⟩
  have dg' := d.fr fg'
  simp only at lg' ⊢
  refine nn_of ?_
  simp only [add_mk, Nat.zero_add]
  refine rdE fg' (rd3k (s := e) dg'.le.rd hie (by omega) ?_)
  rw [e2, ei]
  refine cnd_of (fun cc => nn_of ?_) fun cc => ?_
  · rw [beq_iff_eq] at cc
    have cv : eV M i = u := by omega
    simp only [add_mk, Nat.zero_add]
    refine rdE fg' (rd3k (s := e) dg'.le.rd hie (by omega) ?_)
    rw [e1]
    refine app g' t' _ (2 * i + 1) _ _ (fun s' g' => Kr (s', ((i + 1 : Nat) : Int), ()) g') fg' lg' (by rw [List.length_append]; split <;> simp <;> omega) hE1 hV1 fun s' g2 fg2 lg2 => hKr him _ _ ⟨rfl, fg2, ?_⟩
    rw [asuc, if_pos cv]; exact lg2
  · rw [beq_eq_false_iff_ne] at cc
    refine hKr him _ _ ⟨rfl, fg', ?_⟩
    rw [asuc, if_neg (show ¬ eV M i = u by omega), List.append_nil]; exact lg'

theorem rgStrength_spec (d : RG h a e n m M B) (hw : ∀ x, x ∈ M → i64ok x) (v : Int) (K : Int → Int → Hp → Prop) (hK : ∀ h', Fr h.size h h' → K (strA M n m v).1 (strA M n m v).2 h') : g_ref13_Graph_Strength (some ⟨a, 0, none⟩) v h K := by
  obtain ⟨-, gn, gm, gok⟩ := id d.ok
  have Ml := d.le.rd.ilen
  unfold g_ref13_Graph_Strength
  refine rgValid_spec d _ (cnd_f rfl (rgHas_spec d v _ (cnd_of (fun c => ?_) fun c => ?_)))
  · have c' : ¬ (0 ≤ v ∧ v < (n : Int)) := by simp at c; omega
    have := hK h (Fr.refl _ _)
    unfold strA at this
    rw [if_neg c'] at this
    exact this
  simp only [Bool.not_eq_false', decide_eq_true_eq] at c
  obtain ⟨u, rfl⟩ : ∃ u : Nat, v = u := ⟨v.toNat, by omega⟩
  have hun : u < n := by omega
  refine rgAround_spec d (u : Int) _ fun r5 h6 P _ hP l6 n6 f6 => ?_
  obtain rfl := hP u rfl hun
  have d6 := d.fr f6
  have z6 := f6.size
  have alen := arH_few (m := m) (v := u) (n := n) (M := M) gok
  have wl : ∀ x, x ∈ wtA M m u → i64ok x := fun x hx => by
    unfold wtA at hx
    obtain ⟨j, hj, rfl⟩ := List.mem_map.1 hx
    have := (arH_lt hj).1
    have hlt : j / 2 * 3 + 2 < M.length := by rw [Ml, d.en]; omega
    rw [List.getD, List.getElem?_eq_getElem hlt]
    exact hw _ (List.getElem_mem _)
  have wlen : (wtA M m u).length = (arH M m u).length := by unfold wtA; rw [List.length_map]
  refine jn_of (fun (t : Sl × Unit) g => Fr h6.size h6 g ∧ Lst g 1 t.1 (ints (wtA M m u)) h6.size) ?_ fun K9 hK9 => ?_
  · rintro ⟨t, _⟩ g ⟨fg, lg⟩
    refine rSum_spec lg.rd (by omega) wl _ fun h' f' => ?_
    have := hK h' ⟨by have := f'.size; have := fg.size; omega, fun y hy => by rw [f'.blk _ (by have := fg.size; omega), fg.blk _ (by omega), f6.blk y hy]⟩
    unfold strA at this
    rw [if_pos ⟨by omega, by omega⟩, Int.toNat_natCast] at this
    exact this
  · refine for_of (arH M m u).length (fun i (t : Sl × Int × Unit) g => t.2.1 = (i : Int) ∧ Fr h6.size h6 g ∧ Lst g 1 t.1 (ints ((wtA M m u).take i)) h6.size) ?_ ⟨rfl, Fr.refl _ _, Lst.nil _ _ _⟩
    rintro i Kr ⟨t, _, _⟩ g hi ⟨rfl, fg, lg⟩ hKr
    have zg := fg.size
    refine cnd_of (fun c => nn_of ?_) fun c => ?_
    · simp only [decide_eq_true_eq, n6, Int.ofNat_eq_natCast] at c
      have him : i < (arH M m u).length := by omega
      obtain ⟨jj, hjj⟩ : ∃ jj, (arH M m u)[i]? = some jj := ⟨_, List.getElem?_eq_getElem him⟩
      obtain ⟨x1, _⟩ := fl2_get (f := hE) (g := hV M) hjj
      have hem : jj / 2 < m := by have := (arH_lt (List.mem_of_getElem? hjj)).1; omega
      have tn := lg.1
      rw [ints_len, List.length_take] at tn
      simp only at tn
      simp only [add_mk, Nat.zero_add]
      refine ldS_of (p := e.a) (n := e.n) (c := e.c) (by rw [(d6.fr fg).cell]; rfl) (ix_rd (l6.rd.fr fg) (by omega) (by omega) (by omega) fun x hx hc => ⟨by omega, by omega, ?_⟩)
      have x0 := hc 0 (by omega)
      simp only [add_add _ _ _ hx, Int.toNat_natCast, Nat.add_zero, Int.toNat_zero, Nat.zero_mul] at x0 ⊢
      refine ldI_of x0 ?_
      rw [x1, show hE jj = ((jj / 2 : Nat) : Int) from rfl]
      refine rd3k (s := e) (d6.fr fg).le.rd (by rw [d.en]; exact hem) (by omega) ?_
      refine alo_of fun g2 z2 b2 k2 => ?_
      have f2 : Fr g.size g g2 := ⟨by omega, k2⟩
      refine app_lst (news := ints [M.getD (jj / 2 * 3 + 2) 0]) (lg.fr f2).eta (by omega) (rd_row (n := 1) (c := 1) (z := 1) b2 (by omega) rfl).1 (ints_one _) rfl (by simp only; omega) (by simp only; omega) fun s' g3 l3 n3 z3 f3 _ _ => hKr him _ _ ⟨?_, ⟨by omega, fun y hy => by rw [f3.blk _ (by omega), k2 _ (by omega), fg.blk y hy]⟩, ?_⟩
      · simp only; rw [w64, w64s (by omega)]
      · have : (wtA M m u).take (i + 1) = (wtA M m u).take i ++ [M.getD (jj / 2 * 3 + 2) 0] := by
          rw [List.take_succ_eq_append_getElem (by omega)]
          congr 2
          unfold wtA
          obtain ⟨_, ej⟩ := List.getElem?_eq_some_iff.1 hjj
          rw [List.getElem_map, ej]
        rw [this, ints_app]; exact l3
    · simp only [decide_eq_false_iff_not, n6, Int.ofNat_eq_natCast] at c
      obtain rfl : i = (arH M m u).length := by omega
      rw [List.take_of_length_le (by omega)] at lg
      exact hK9 _ _ ⟨fg, lg.eta⟩

theorem rgDegree_spec (d : RG h a e n m M B) (v : Int) (K : Int → Hp → Prop) (hK : ∀ h', Fr h.size h h' → K (if 0 ≤ v ∧ v < (n : Int) then ((arH M m v.toNat).length : Nat) else 0) h') : g_ref13_Graph_Degree (some ⟨a, 0, none⟩) v h K := by
  unfold g_ref13_Graph_Degree
  refine rgAround_spec d v _ fun r1 h2 P hP1 hP2 l2 n2 f2 => ?_
  have := hK h2 f2
  by_cases c : 0 ≤ v ∧ v < (n : Int)
  · rw [if_pos c, ← hP2 v.toNat (by omega) (by omega), ← n2] at this
    exact this
  · rw [if_neg c] at this
    have e := hP1 c
    rw [e] at n2
    rw [n2]; exact this
end

theorem rgAround_nil (v : Int) (h : Hp) (K : Sl → Hp → Prop) (hK : K ⟨none, 0, 0⟩ h) : g_ref13_Graph_Around none v h K := by
  unfold g_ref13_Graph_Around g_ref13_Graph_Has
  exact rgValid_nil h _ (cnd_f rfl (cnd_t rfl hK))
theorem rgStrength_nil (v : Int) (h : Hp) (K : Int → Int → Hp → Prop) (hK : K 0 1 h) : g_ref13_Graph_Strength none v h K := by
  unfold g_ref13_Graph_Strength
  exact rgValid_nil h _ (cnd_t rfl hK)
theorem rgDegree_nil (v : Int) (h : Hp) (K : Int → Hp → Prop) (hK : K 0 h) : g_ref13_Graph_Degree none v h K := by
  unfold g_ref13_Graph_Degree
  exact rgAround_nil v h _ hK

theorem Rd.pre {h : Hp} {z n c k c' : Nat} {a : Option Addr} {A B : List Value} (r : Rd h z ⟨a, n, c⟩ (A ++ B)) (hA : A.length = k * z) (hk : k ≤ n) : Rd h z ⟨a, k, c'⟩ A := by
  by_cases q : k * z = 0
  · have : A = [] := List.eq_nil_of_length_eq_zero (by omega)
    subst this
    refine ⟨by simp only; rw [q, seg_zero], fun x _ hp => by simp only at hp; omega⟩
  · have hnz : k * z ≤ n * z := Nat.mul_le_mul_right _ hk
    have e := r.1
    obtain ⟨b, o, xs, ha, hr, hl, hx⟩ := seg_inv e (by simp only; omega)
    simp only at ha hl hx
    subst ha
    refine ⟨?_, fun x hx' hp => r.2 x hx' (by simp only; omega)⟩
    simp only
    rw [seg_row hr (by omega)]
    congr 1
    have : A = ((xs.drop o).take (n * z)).take (k * z) := by rw [← hx, ← hA, List.take_left]
    rw [this, List.take_take, Nat.min_eq_left hnz]

theorem fl2_app (f g : Nat → Int) (P Q : List Nat) : fl2 f g (P ++ Q) = fl2 f g P ++ fl2 f g Q := by simp [fl2]

set_option maxHeartbeats 1000000 in
theorem g_law13_GraphSurrounds_true (n : Int) (s : Sl) (v most : Int) (h : Hp) (K : Bool → Hp → Prop) (w0 : -9223372036854775808 ≤ n ∧ n ≤ 9223372036854775807) {M : List Int} (hr : Rd h 3 s (ints M)) (hy : s.n ≤ 2 ^ 63 - 1)
    (hm : ∀ x ∈ M, -9223372036854775808 ≤ x ∧ x ≤ 9223372036854775807) (w1 : -9223372036854775808 ≤ v ∧ v ≤ 9223372036854775807) (w2 : 0 ≤ most ∧ most ≤ 255) (hK : ∀ h', K true h') : g_law13_GraphSurrounds n s v most h K := by
  unfold g_law13_GraphSurrounds
  have em : w64 most = most := w64u8 w2
  rw [em]
  refine small_spec n s h _ fun b hb => cnd_of (fun c => works13_spec h _ fun h' _ => hK h') fun c => ?_
  simp only [Bool.not_eq_false'] at c
  have hs := hb c
  refine both_spec n s M h hr (by omega) _ (fun h9 _ _ => cnd_f rfl ?_) fun N h9 o a e B eN d d' _ _ _ => cnd_f rfl ?_
  · have ng : ∀ h, NG h none := fun h => .inl rfl
    refine gStrength_nil (ng _) v _ (rgStrength_nil v _ _ (rgAround_nil v _ _ (cnd_f rfl (cnd_f rfl (gDegree_nil (ng _) v _ (rgDegree_nil v _ _ (cnd_f rfl ?_)))))))
    refine around_nil (ng _) v 200 _ fun h23 _ => pairs_spec (rdNil _ 2) (rdNil _ 2) (by simp) _ fun b hb => ?_
    rw [hb.2 rfl]
    refine cnd_f rfl (jn_of (fun (t : Sl × Unit) g => t.1 = ⟨none, 0, 0⟩ ∧ g = h23) ?_ fun K28 hK28 => ?_)
    · rintro ⟨_, _⟩ g ⟨rfl, eg⟩
      rw [eg]
      refine around_nil (ng _) v most _ fun h30 _ => pairs_spec (rdNil _ 2) (rdNil _ 2) (by simp) _ fun b hb => cnd_t (hb.2 rfl) (works13_spec _ _ fun h' _ => hK h')
    · exact cnd_f (by simp only [decide_eq_false_iff_not, Int.ofNat_eq_natCast]; omega) (hK28 _ _ ⟨rfl, rfl⟩)
  · have hw : ∀ x, x ∈ M → i64ok x := fun x hx => hm x hx
    refine gStrength_spec d hw v _ fun h12 f12 => rgStrength_spec (d'.fr f12) hw v _ fun h15 f15 => rgAround_spec ((d'.fr f12).fr f15) v _ fun r16 h17 P hP1 hP2 l17 n17 f17 => ?_
    have D := ((d.fr f12).fr f15).fr f17
    have D' := ((d'.fr f12).fr f15).fr f17
    obtain ⟨-, gn, gm, gok⟩ := id d.ok
    have Pl : P.length ≤ 150 := by
      by_cases q : 0 ≤ v ∧ v < (N : Int)
      · rw [hP2 v.toNat (by omega) (by omega)]
        have := arH_few (m := s.n) (v := v.toNat) (n := N) (M := M) gok
        omega
      · rw [hP1 q]; simp
    have same : ∀ Q : List Nat, (¬ (0 ≤ v ∧ v < (N : Int)) → Q = []) → (∀ u : Nat, v = u → u < N → Q = arH M s.n u) → Q = P := fun Q q1 q2 => by
      by_cases q : 0 ≤ v ∧ v < (N : Int)
      · rw [q2 v.toNat (by omega) (by omega), hP2 v.toNat (by omega) (by omega)]
      · rw [q1 q, hP1 q]
    refine cnd_f (by simp) (cnd_f (by simp) (gDegree_spec D v _ (rgDegree_spec D' v _ fun h21 f21 => cnd_f (by simp) ?_)))
    have D21 := D.fr f21
    refine around_spec D21 v 200 (by omega) _ fun r22 h23 Q q1 q2 l23 f23 => ?_
    obtain rfl := same Q q1 q2
    rw [List.take_of_length_le (by simp; omega)] at l23
    have l17' := (l17.fr f21).fr f23
    refine pairs_spec l23.rd l17'.rd (by rw [fl2_len]; omega) _ fun b hb => ?_
    rw [hb.2 rfl]
    have D23 := D21.fr f23
    refine cnd_f rfl (jn_of (fun (t : Sl × Unit) g => g = h23 ∧ Rd h23 2 t.1 (ints (fl2 hE (hV M) (Q.take most.toNat)))) ?_ fun K28 hK28 => ?_)
    · rintro ⟨t, _⟩ g ⟨eg, rt⟩
      rw [eg]
      simp only at rt ⊢
      refine around_spec D23 v most (by omega) _ fun r29 h30 Q2 q1' q2' l30 f30 => ?_
      obtain rfl := same Q2 q1' q2'
      refine pairs_spec l30.rd (rt.fr f30) (by rw [fl2_len, List.length_take]; omega) _ fun b hb => cnd_t (hb.2 rfl) (works13_spec _ _ fun h' _ => hK h')
    · have cap := l17.2.1
      refine cnd_of (fun cc => ?_) fun cc => ?_
      · simp only [decide_eq_true_eq, n17, Int.ofNat_eq_natCast] at cc
        refine ⟨Int.le_refl _, w2.1, by simp only [Int.ofNat_eq_natCast]; omega, Int.le_refl _, hK28 _ _ ⟨rfl, ?_⟩⟩
        have ha : (if Int.ofNat r16.c = 0 then r16.a else Option.map (fun q => q.add (Int.toNat 0 * 2)) r16.a) = r16.a := by
          split
          · rfl
          · cases r16.a with
            | none => rfl
            | some x => rfl
        simp only [ha, show most - 0 = most by omega]
        have key := l17'.rd
        rw [← List.take_append_drop most.toNat Q, fl2_app, ints_app] at key
        exact key.pre (by rw [ints_len, fl2_len, List.length_take]; omega) (show most.toNat ≤ r16.n by omega)
      · simp only [decide_eq_false_iff_not, n17, Int.ofNat_eq_natCast] at cc
        refine hK28 _ _ ⟨rfl, ?_⟩
        rw [List.take_of_length_le (by omega)]
        exact l17'.rd

end Go.Hx
