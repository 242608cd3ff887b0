/- GraphConnects over the abstract heap. -/
import Derived.Test.YthohhnnjpaepnaaHxGrO
import Derived.Test.YthohhnnjpaepnaaHxGrR
import Derived.Test.YthohhnnjpaepnaaHxGrL
namespace Go.Hx
set_option linter.unusedSimpArgs false
set_option linter.unusedVariables false

/-- So many steps. -/
inductive Wk (P : Nat → Nat → Prop) (n : Nat) : Nat → Nat → Nat → Prop
  | nil (a : Nat) : Wk P n 0 a a
  | snoc {k a b c : Nat} : Wk P n k a b → b < n → c < n → adj P b c → Wk P n (k + 1) a c

theorem adj.symm {P : Nat → Nat → Prop} {u w : Nat} (h : adj P u w) : adj P w u := Or.symm h

theorem Wk.cons {P : Nat → Nat → Prop} {n k a b c : Nat} (ha : a < n) (hb : b < n) (e : adj P a b) (w : Wk P n k b c) : Wk P n (k + 1) a c := by
  induction w with
  | nil b => exact .snoc (.nil a) ha hb e
  | snoc w hb' hc e' ih => exact .snoc (ih hb e) hb' hc e'

theorem Wk.symm {P : Nat → Nat → Prop} {n k a b : Nat} (w : Wk P n k a b) : Wk P n k b a := by
  induction w with
  | nil a => exact .nil a
  | snoc w hb hc e ih => exact .cons hc hb e.symm ih

theorem Dis.wk {P : Nat → Nat → Prop} {n v : Nat} {W : List Int} (d : Dis P n v W) : ∀ (k : Nat) (w : Nat), w < n → W.getD w 0 = k → Wk P n k v w := by
  intro k
  induction k with
  | zero => intro w hw e; have := d.z w hw (by omega); subst this; exact .nil _
  | succ k ih =>
    intro w hw e
    obtain ⟨u, hu, ha, hd⟩ := d.nxt w hw (by omega)
    exact .snoc (ih u hu (by omega)) hu hw ha

theorem Dis.of_wk {P : Nat → Nat → Prop} {n v k w : Nat} {W : List Int} (d : Dis P n v W) (hv : v < n) (p : Wk P n k v w) : w < n ∧ 0 ≤ W.getD w 0 ∧ W.getD w 0 ≤ k := by
  induction p with
  | nil a => exact ⟨hv, by rw [d.at0]; omega, by rw [d.at0]; omega⟩
  | snoc p hb hc e ih =>
    obtain ⟨h1, h2, h3⟩ := ih d hv
    obtain ⟨h4, h5⟩ := d.cl _ hb h2 _ hc e
    exact ⟨hc, h4, by omega⟩

theorem Dis.sym {P : Nat → Nat → Prop} {n u v : Nat} {W W' : List Int} (d : Dis P n u W) (e : Dis P n v W') (hu : u < n) (hv : v < n) : W.getD v 0 = W'.getD u 0 := by
  have one : ∀ {u v : Nat} {W W' : List Int}, Dis P n u W → Dis P n v W' → u < n → v < n → 0 ≤ W.getD v 0 → 0 ≤ W'.getD u 0 ∧ W'.getD u 0 ≤ W.getD v 0 := fun {u v W W'} d e hu hv h => by
    have p := (d.wk (W.getD v 0).toNat v hv (by omega)).symm
    obtain ⟨_, h1, h2⟩ := e.of_wk hv p
    exact ⟨h1, by omega⟩
  have l1 := d.low v hv
  have l2 := e.low u hu
  by_cases h : 0 ≤ W.getD v 0
  · have h1 := one d e hu hv h
    have h2 := one e d hv hu h1.1
    omega
  · by_cases h' : 0 ≤ W'.getD u 0
    · have := (one e d hv hu h').1; omega
    · omega

theorem u8m (x : Int) (h : 0 ≤ x ∧ x ≤ 255) : ∃ u : Nat, Int.tmod (w64 x) 40 = u ∧ u < 40 := by
  rw [w64u8 h, tmod_pos h.1]
  exact ⟨(x % 40).toNat, by omega, by omega⟩

set_option maxHeartbeats 1000000 in
theorem g_law13_GraphConnects_true (s : Sl) (a1 a2 : Int) (h : Hp) (K : Bool → Hp → Prop) {C : List Value} (hr : Rd h 3 s C) (hy : s.n ≤ 2 ^ 63 - 1)
    (hm : ∀ i j l, i < s.n → [LK.int .u8, .int .u8, .int .i8][j]? = some l → ∃ v, C[i * 3 + j]? = some v ∧ okCell l v) (w1 : 0 ≤ a1 ∧ a1 ≤ 255) (w2 : 0 ≤ a2 ∧ a2 ≤ 255) (hK : ∀ h', K true h') : g_law13_GraphConnects s a1 a2 h K := by
  have hC := lkC hm
  obtain ⟨u, e1, hu⟩ := u8m a1 w1
  obtain ⟨v, e2, hv⟩ := u8m a2 w2
  unfold g_law13_GraphConnects
  rw [e1, e2]
  refine cnd_of (fun c => works13_spec h _ fun h' _ => hK h') fun c => ?_
  simp only [decide_eq_false_iff_not, Int.ofNat_eq_natCast] at c
  refine made_spec hr (by omega) hC _ fun o m h4 bl hm d lo f4 => cnd_f rfl (gLabels_spec d _ fun r5 h6 L l6 lc f6 => ?_)
  obtain ⟨-, -, -, gok⟩ := id d.ok
  have z4 := f4.size; have z6 := f6.size
  have F6 : Fr h.size h h6 := ⟨by omega, fun y hy => by rw [f6.blk _ (by omega), f4.blk _ hy]⟩
  refine Built_spec (n := 40) (by omega) (hr.fr F6) (by omega) hC _ fun r7 h8 l8 f8 => ⟨by omega, ?_⟩
  have d8 := (d.fr f6).fr f8
  refine gDist_spec d8 u _ (fun q => absurd (by omega) q) fun u' r9 h10 W eu _ l10 dis _ f10 => ?_
  obtain rfl : u' = u := by omega
  have L5n : r5.n = 40 := by have := l6.1; rw [ints_len, nats_len, lc.len] at this; omega
  have L9n : r9.n = 40 := by have := l10.1; rw [ints_len, dis.len] at this; omega
  have L7n : r7.n = m := by have := l8.1; rw [ints_len, bl] at this; omega
  have z8 := f8.size; have z10 := f10.size
  have f610 : Fr h6.size h6 h10 := ⟨by omega, fun y hy => by rw [f10.blk _ (by omega), f8.blk _ hy]⟩
  have l6' := l6.fr f610
  have l8' := l8.fr f10
  have d10 := d8.fr f10
  refine cnd_f (by simp [L5n]) (cnd_f (by simp [L9n]) ?_)
  refine jn_of (fun _ g => g = h10) ?_ fun K13 hK13 => ?_
  case refine_2 =>
    refine for_of m (fun i (st : Int × Unit) g => st.1 = (i : Int) ∧ g = h10) ?_ ⟨rfl, rfl⟩
    rintro i Kr ⟨st, _⟩ g hi ⟨rfl, rfl⟩ hKr
    refine cnd_of (fun c => ?_) fun c => hK13 _ _ rfl
    simp only [decide_eq_true_eq, L7n, Int.ofNat_eq_natCast] at c
    have him : i < m := by omega
    obtain ⟨g1, g2, g3, g4, g5⟩ := (gok i him).lt
    refine rd3k l8'.rd (by omega) (by omega) ?_
    rw [g4]
    refine get1_spec l6'.rd (by rw [lc.len]; omega) _ (rd3k l8'.rd (by omega) (by omega) ?_)
    rw [g5]
    refine get1_spec l6'.rd (by rw [lc.len]; omega) _ (cnd_f ?_ (hKr him _ _ ⟨?_, rfl⟩))
    · rw [lc.ed _ _ ⟨i, him, rfl, rfl⟩]; simp
    · simp only; rw [w64, w64s (by omega)]
  rintro ⟨⟩ gx egx
  rw [egx]
  clear egx gx
  refine jn_of (fun _ g => g = h10) ?_ fun K16 hK16 => ?_
  case refine_2 =>
    refine for_of 40 (fun i (st : Int × Unit) g => st.1 = (i : Int) ∧ g = h10) ?_ ⟨rfl, rfl⟩
    rintro i Kr ⟨st, _⟩ g hi ⟨rfl, rfl⟩ hKr
    refine cnd_of (fun c => ?_) fun c => hK16 _ _ rfl
    simp only [decide_eq_true_eq] at c
    have him : i < 40 := by omega
    have gl : ∀ {j : Nat}, j < 40 → j < L.length := fun hj => by rw [lc.len]; exact hj
    have hle := lc.le i him
    refine get1_spec l6'.rd (gl him) _ ⟨by omega, get1_spec l6'.rd (gl hu) _ (ix_ld1 l10.rd (show (0 : Int) ≤ (i : Int) by omega) (by omega) rfl (cnd_f ?_ ?_))⟩
    · rw [Int.toNat_natCast, Bool.not_eq_false', beq_iff_eq, Bool.eq_iff_iff, beq_iff_eq, decide_eq_true_eq, ge_iff_le, Int.natCast_inj, lc.iff him hu, dis.con (fun a b => d.pl (Nat.le_refl _) a b) hu him]
      exact ⟨Cn.symm, Cn.symm⟩
    · refine get1_spec l6'.rd (gl him) _ (cnd_f (by simp) (get1_spec l6'.rd (gl him) _ (cnd_f (by simp only [decide_eq_false_iff_not]; omega) (get1_spec l6'.rd (gl him) _ (get1_spec l6'.rd (gl (by omega)) _ (get1_spec l6'.rd (gl him) _ (cnd_f ?_ (hKr him _ _ ⟨?_, rfl⟩))))))))
      · rw [lc.linv.2 i (gl him)]; simp
      · simp only; rw [w64, w64s (by omega)]
  rintro ⟨⟩ gx egx
  rw [egx]
  clear egx gx
  refine ⟨by omega, gDist_spec d10 v _ (fun q => absurd (by omega) q) fun v' r17 h18 W' ev _ l18 dis' _ f18 => ?_⟩
  obtain rfl : v' = v := by omega
  have L17n : r17.n = 40 := by have := l18.1; rw [ints_len, dis'.len] at this; omega
  refine cnd_t (by simp [L17n]) ⟨by omega, ix_ld1 l18.rd (show (0 : Int) ≤ (u' : Int) by omega) (by omega) rfl ⟨by omega, ix_ld1 (l10.rd.fr f18) (show (0 : Int) ≤ (v' : Int) by omega) (by omega) rfl ?_⟩⟩
  rw [Int.toNat_natCast, Int.toNat_natCast, dis.sym dis' hu hv]
  exact cnd_t (by simp) (works13_spec _ _ fun h' _ => hK h')

end Go.Hx
