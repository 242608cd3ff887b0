/- The laws about the order of edges. No condition. -/
import Derived.Test.YtdponlecglgmbaaHxTorE
import Derived.Test.YtdponlecglgmbaaHxRow
namespace Go.Hx
set_option linter.unusedSimpArgs false
set_option linter.unusedVariables false

/-- A slice of small whole numbers, as an argument. -/
theorem kints_of {k : IntKind} (hk : k = .u8 ∨ k = .u16) {n : Nat} {cs : List Value} (hl : cs.length = n * 1) (h : ∀ i j l, i < n → (List.replicate 1 (LK.int k))[j]? = some l → ∃ v, cs[i * 1 + j]? = some v ∧ okCell l v) :
    ∃ M : List Nat, cs = kints k M ∧ ∀ x ∈ M, x < 65536 := by
  have hg : ∀ i, i < cs.length → ∃ m : Nat, cs[i]? = some (.int k (m : Nat)) ∧ m < 65536 := by
    intro i hi
    obtain ⟨v, hv, m, rfl, hw⟩ := h i 0 (.int k) (by omega) rfl
    rw [Nat.mul_one, Nat.add_zero] at hv
    have hb : 0 ≤ m ∧ m ≤ 65535 := by
      rcases hk with rfl | rfl
      · have h1 : IntKind.u8.min = 0 := rfl
        have h2 : IntKind.u8.max = 255 := rfl
        simp only [Lit.wf, Bool.and_eq_true, decide_eq_true_eq] at hw
        omega
      · have h1 : IntKind.u16.min = 0 := rfl
        have h2 : IntKind.u16.max = 65535 := rfl
        simp only [Lit.wf, Bool.and_eq_true, decide_eq_true_eq] at hw
        omega
    refine ⟨m.toNat, ?_, by omega⟩
    rw [hv]; congr 2; omega
  clear h hl
  induction cs with
  | nil => exact ⟨[], rfl, by simp⟩
  | cons v cs ih =>
    obtain ⟨M, hM, hw⟩ := ih fun i hi => by
      obtain ⟨m, h1, h2⟩ := hg (i + 1) (by simp; omega)
      exact ⟨m, by simpa using h1, h2⟩
    obtain ⟨m, h1, h2⟩ := hg 0 (by simp)
    simp at h1
    subst h1
    refine ⟨m :: M, by simp [kints, hM], fun x hx => ?_⟩
    rcases List.mem_cons.1 hx with rfl | hx
    · exact h2
    · exact hw x hx


theorem TS.wt1 {h : Hp} {o : TOb} {w t : Nat} {R : ER} (d : TS h o w t R) : 1 ≤ w ∧ 1 ≤ t ∧ w * t ≤ 4096 ∧ o.hi ≤ h.size ∧ o.lo < o.hi := by
  obtain ⟨_, _, _, _, _, _, _, _, _, _, _, d⟩ := d; exact ⟨d.w1, d.t1, d.wt, d.hi, by have := d.ia; omega⟩

theorem TS.keep {h h' : Hp} {o : TOb} {w t : Nat} {R : ER} (d : TS h o w t R) (hz : h.size ≤ h'.size) (hb : ∀ c, o.lo ≤ c → c < o.hi → h'.blk c = h.blk c) : TS h' o w t R := by
  obtain ⟨par, siz, M, W, a0, a1, cnt, L, lea, rk, P, d⟩ := d
  exact ⟨par, siz, M, W, a0, a1, cnt, L, lea, rk, P, d.keep hz hb⟩

/-- Another torus is left alone. -/
theorem TS.other {h h' : Hp} {o o' : TOb} {w t : Nat} {R : ER} (d : TS h o w t R) (f : FrO o' h h') (hs : o.hi ≤ o'.lo ∨ o'.hi ≤ o.lo) : TS h' o w t R :=
  d.keep f.size fun c h1 h2 => f.blk c (by have := d.wt1; omega) (by omega)

theorem FrO.fr {o : TOb} {h h' : Hp} {B : Nat} (f : FrO o h h') (hB : B ≤ o.lo) (hs : B ≤ h.size) : Fr B h h' := ⟨f.size, fun c hc => f.blk c (by omega) (.inl (by omega))⟩

/-- New, with no edges. -/
theorem New_e (w t : Nat) (hg : 1 ≤ w ∧ 1 ≤ t ∧ w * t ≤ 4096) (h : Hp) (K : Option Addr → Int → Hp → Prop)
    (hK : ∀ h' o, TS h' o w t (eR w t []) → h.size ≤ o.lo → Fr h.size h h' → K (some ⟨o.a, 0, none⟩) 0 h') : g_wrapping_New (w : Nat) (t : Nat) h K := by
  refine New_spec _ _ _ _ (fun g => absurd ⟨by omega, by omega, by rw [← Int.natCast_mul]; omega⟩ g) fun w' t' hx hy _ h' o d hlo f => ?_
  obtain rfl : w = w' := by omega
  obtain rfl : t = t' := by omega
  exact hK h' o (by rw [eR_nil]; exact ⟨_, _, _, _, _, _, _, _, _, _, _, d⟩) hlo f

/-- What Wraps answers. -/
def wrB (n : Nat) (R : ER) (k : Bool) (b : Bool) : Prop := b = true ↔ ∃ v, v < n ∧ WrapC R v k

theorem wrB_eq {n : Nat} {R : ER} {k b c : Bool} (h : wrB n R k b) (g : wrB n R k c) : b = c := by
  rw [Bool.eq_iff_iff]; exact h.trans g.symm

theorem Wraps_e {h : Hp} {o : TOb} {w t : Nat} {R : ER} (d : TS h o w t R) (K : Bool → Bool → Hp → Prop) (hK : ∀ b c, wrB (w * t) R false b → wrB (w * t) R true c → K b c h) : g_wrapping_Torus_Wraps (some ⟨o.a, 0, none⟩) h K := by
  obtain ⟨par, siz, M, W, a0, a1, cnt, L, lea, rk, P, d⟩ := d
  exact Wraps_spec d _ (hK _ _ (d.inv.allW false) (d.inv.allW true))

theorem Count_e {h : Hp} {o : TOb} {w t : Nat} {R : ER} (d : TS h o w t R) (K : Int → Hp → Prop) (hK : K (compN (w * t) R : Nat) h) : g_wrapping_Torus_Count (some ⟨o.a, 0, none⟩) h K := by
  obtain ⟨par, siz, M, W, a0, a1, cnt, L, lea, rk, P, d⟩ := d
  exact Count_spec d _ hK

/-- What Same answers. -/
def saB (n : Nat) (R : ER) (i j : Int) (b : Bool) : Prop := b = true ↔ ∃ a c : Nat, i = a ∧ j = c ∧ a < n ∧ c < n ∧ Conn R a c
theorem saB_eq {n : Nat} {R : ER} {i j : Int} {b c : Bool} (h : saB n R i j b) (g : saB n R i j c) : b = c := by
  rw [Bool.eq_iff_iff]; exact h.trans g.symm

theorem Same_e {h : Hp} {o : TOb} {w t : Nat} {R : ER} (d : TS h o w t R) (i j : Int) (K : Bool → Hp → Prop) (hK : ∀ h' b, TS h' o w t R → FrO o h h' → saB (w * t) R i j b → K b h') : g_wrapping_Torus_Same (some ⟨o.a, 0, none⟩) i j h K := by
  obtain ⟨par, siz, M, W, a0, a1, cnt, L, lea, rk, P, d⟩ := d
  exact Same_spec d i j _ fun h' par' M' r d' f' hr => hK h' r ⟨_, _, _, _, _, _, _, _, _, _, _, d'⟩ f' hr

/-- What Offset answers. -/
def ofB (n : Nat) (R : ER) (i j : Int) (x y : Int) (b : Bool) : Prop :=
  (b = true ∧ ∃ a c : Nat, i = a ∧ j = c ∧ a < n ∧ c < n ∧ (∀ k, ¬ WrapC R a k) ∧ Wk R a c x y) ∨ (b = false ∧ x = 0 ∧ y = 0 ∧ ¬ ∃ a c : Nat, i = a ∧ j = c ∧ a < n ∧ c < n ∧ Conn R a c ∧ ∀ k, ¬ WrapC R a k)

theorem ofB_eq {n : Nat} {R : ER} {i j x y u v : Int} {b c : Bool} (h : ofB n R i j x y b) (g : ofB n R i j u v c) : x = u ∧ y = v ∧ b = c := by
  rcases h with ⟨rfl, a, d, e1, e2, h1, h2, h3, h4⟩ | ⟨rfl, rfl, rfl, h1⟩ <;> rcases g with ⟨rfl, a', d', f1, f2, g1, g2, g3, g4⟩ | ⟨rfl, rfl, rfl, g1⟩
  · obtain rfl : a = a' := by omega
    obtain rfl : d = d' := by omega
    obtain ⟨q1, q2⟩ := h4.uniq h3 g4
    exact ⟨q1, q2, rfl⟩
  · exact absurd ⟨a, d, e1, e2, h1, h2, ⟨_, _, h4⟩, h3⟩ g1
  · exact absurd ⟨a', d', f1, f2, g1, g2, ⟨_, _, g4⟩, g3⟩ h1
  · exact ⟨rfl, rfl, rfl⟩

theorem Offset_e {h : Hp} {o : TOb} {w t : Nat} {R : ER} (d : TS h o w t R) (i j : Int) (K : Int → Int → Bool → Hp → Prop) (hK : ∀ h' x y b, TS h' o w t R → FrO o h h' → ofB (w * t) R i j x y b → K x y b h') : g_wrapping_Torus_Offset (some ⟨o.a, 0, none⟩) i j h K := by
  obtain ⟨par, siz, M, W, a0, a1, cnt, L, lea, rk, P, d⟩ := d
  refine Offset_spec d i j _ (fun h' par' M' d' f' hn => hK h' 0 0 false ⟨_, _, _, _, _, _, _, _, _, _, _, d'⟩ f' (.inr ⟨rfl, rfl, rfl, hn⟩)) fun h' par' M' d' f' a c e1 e2 ha hc _ hk x y hxy =>
    hK h' x y true ⟨_, _, _, _, _, _, _, _, _, _, _, d'⟩ f' (.inl ⟨rfl, a, c, e1, e2, ha, hc, hk, hxy⟩)

theorem compN_nil (n : Nat) (w t : Nat) : compN n (eR w t []) = n := by
  refine Eq.trans (cntB_congr (q := fun _ => true) fun v hv => ?_) (cntB_all n)
  refine (@decide_eq_true_iff _ (Classical.propDecidable _)).2 fun u hu c => ?_
  have := nc (E := []) (w := w) (t := t) id (fun e he => by cases he) c
  simp only [id] at this
  omega

theorem compN_le (n : Nat) (R : ER) : compN n R ≤ n := cntB_le _ _

theorem bE_lt {n e : Nat} {l : List Nat} (hn : 1 ≤ n) (h : e ∈ baseE n l) : e < 2 * n := by
  simp only [baseE, List.mem_map] at h
  obtain ⟨v, _, rfl⟩ := h
  exact Nat.mod_lt _ (by omega)

theorem idx_ok {a n : Nat} (ha : a < 256) (hn : 1 ≤ n) (hn' : n ≤ 4096) : Int.tmod (IntKind.i64.wrap (a : Int)) ((n : Nat) : Int) = ((a % n : Nat) : Int) := by
  rw [w64n (by omega), Int.tmod_eq_emod_of_nonneg (by omega), ← Int.natCast_emod]

theorem g_law30_WrappingOrder_true (a0 a1 : Int) (s : Sl) (a3 a4 : Int) (h : Hp) (K : Bool → Hp → Prop) (w0 : 0 ≤ a0 ∧ a0 ≤ 255) (w1 : 0 ≤ a1 ∧ a1 ≤ 255) {M2 : List Value} (hr : Rd h 1 s M2) (hy : s.n ≤ 2 ^ 63 - 1)
    (hm : ∀ i j l, i < s.n → (List.replicate 1 (LK.int .u16))[j]? = some l → ∃ v, M2[i * 1 + j]? = some v ∧ okCell l v) (w3 : 0 ≤ a3 ∧ a3 ≤ 255) (w4 : 0 ≤ a4 ∧ a4 ≤ 255) (hK : ∀ h', K true h') : g_law30_WrappingOrder a0 a1 s a3 a4 h K := by
  obtain ⟨l, rfl, hl⟩ := kints_of (.inr rfl) hr.len hm
  obtain ⟨A, rfl⟩ : ∃ A : Nat, a0 = A := ⟨a0.toNat, by omega⟩
  obtain ⟨B, rfl⟩ : ∃ B : Nat, a1 = B := ⟨a1.toNat, by omega⟩
  obtain ⟨i, rfl⟩ : ∃ i : Nat, a3 = i := ⟨a3.toNat, by omega⟩
  obtain ⟨j, rfl⟩ : ∃ j : Nat, a4 = j := ⟨a4.toNat, by omega⟩
  unfold g_law30_WrappingOrder
  refine sizes_spec (by omega) (by omega) _ _ ?_
  obtain ⟨w, hw⟩ : ∃ w, w = 1 + A % 12 := ⟨_, rfl⟩
  obtain ⟨t, ht⟩ : ∃ t, t = 1 + B % 12 := ⟨_, rfl⟩
  rw [← hw, ← ht]
  have hw1 : 1 ≤ w ∧ w ≤ 12 := by omega
  have ht1 : 1 ≤ t ∧ t ≤ 12 := by omega
  clear hw ht
  have hn : w * t ≤ 144 := Nat.mul_le_mul hw1.2 ht1.2
  have hn1 : 1 ≤ w * t := Nat.mul_le_mul hw1.1 ht1.1
  have e1 : IntKind.i64.wrap ((w : Int) * t) = ((w * t : Nat) : Int) := by rw [← Int.natCast_mul, w64n (by omega)]
  simp only [w64, e1, idx_ok (show i < 256 by omega) hn1 (by omega), idx_ok (show j < 256 by omega) hn1 (by omega)]
  refine New_e w t ⟨hw1.1, ht1.1, by omega⟩ _ _ fun h6 o d6 hlo f6 => New_e w t ⟨hw1.1, ht1.1, by omega⟩ _ _ fun h9 o' d9 hlo' f9 => cnd_f rfl (cnd_f rfl ?_)
  have q6 := d6.wt1; have q9 := d9.wt1
  have z6 := f6.size; have z9 := f9.size
  have d69 := d6.fr f9
  refine edges_spec hn1 (by omega) hl false ((hr.fr f6).fr ⟨f9.size, f9.blk⟩) (by have := hr.len; rw [kints_len] at this; omega) _ fun s1 h11 M1 l1 f11 i1 o1 _ n1 => ?_
  have z11 := f11.size
  refine put_spec (d69.fr f11) l1.rd (fun e he => bE_lt hn1 ((i1 e).1 he)) (by omega) (fun x hx => by have := (l1.blk_lt hx).1; omega) false _ fun h13 E1 c1 d13 f13 mE1 hc1 => ?_
  have z13 := f13.size
  have r13 : Fr h.size h h13 := ⟨by omega, fun c hc => by rw [f13.blk _ (by omega) (.inl (by omega)), f11.blk _ (by omega), f9.blk _ (by omega), f6.blk _ hc]⟩
  refine edges_spec hn1 (by omega) hl true (hr.fr r13) (by have := hr.len; rw [kints_len] at this; omega) _ fun s2 h15 M2 l2 f15 i2 _ _ n2 => ?_
  have z15 := f15.size
  have d15 : TS h15 o' w t (eR w t []) := ((d9.fr f11).other f13 (.inr (by omega))).fr f15
  refine put_spec d15 l2.rd (fun e he => bE_lt hn1 ((i2 e).1 he)) (by omega) (fun x hx => by have := (l2.blk_lt hx).1; omega) true _ fun h17 E2 c2 d17 f17 mE2 hc2 => ?_
  have z17 := f17.size
  have g17 : TS h17 o w t (eR w t E1) := (d13.fr f15).other f17 (.inl (by omega))
  have hE : eR w t E2 = eR w t E1 := eR_congr fun e => by rw [mE1, mE2, i1, i2]
  rw [hE] at d17 hc2
  rw [compN_nil] at hc1 hc2
  refine ⟨by omega, by omega, Wraps_e g17 _ fun b0 b1 w0 w1 => Wraps_e d17 _ fun b2 b3 w2 w3 => ?_⟩
  obtain rfl := wrB_eq w0 w2
  obtain rfl := wrB_eq w1 w3
  refine Offset_e g17 _ _ _ fun h27 x1 y1 k1 g27 f27 v1 => ?_
  have z27 := f27.size
  refine Offset_e (d17.other f27 (.inr (by omega))) _ _ _ fun h31 x2 y2 k2 d31 f31 v2 => ?_
  obtain ⟨rfl, rfl, rfl⟩ := ofB_eq v1 v2
  have z31 := f31.size
  have ecc : c1 = c2 := by omega
  subst ecc
  refine cnd_t (by simp) (cnd_t (by simp) (cnd_t (by simp) (cnd_t (by simp) (cnd_t (by simp) (cnd_t (by simp) (cnd_t (by simp) ?_))))))
  refine Same_e (g27.other f31 (.inl (by omega))) _ _ _ fun h33 b4 g33 f33 s4 => ?_
  have z33 := f33.size
  refine Same_e (d31.other f33 (.inr (by omega))) _ _ _ fun h35 b5 d35 f35 s5 => ?_
  obtain rfl := saB_eq s4 s5
  have g35 := g33.other f35 (.inl (by omega))
  refine cnd_t (by simp) (Count_e g35 _ (Count_e d35 _ (cnd_t (by simp) (Count_e g35 _ (cnd_t ?_ (works_spec _ _ fun h' _ => hK h'))))))
  rw [w64_eq (by omega) (by omega)]
  simp only [beq_iff_eq]
  omega

end Go.Hx
