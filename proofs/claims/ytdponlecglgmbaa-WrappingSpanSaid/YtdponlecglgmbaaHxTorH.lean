/- The laws about displacements and about one edge more. No condition. -/
import Derived.Test.YtdponlecglgmbaaHxTorG
namespace Go.Hx
set_option linter.unusedSimpArgs false
set_option linter.unusedVariables false

theorem ofB.tt {n : Nat} {R : ER} {i j : Nat} {x y : Int} {b : Bool} (h : ofB n R (i : Nat) (j : Nat) x y b) (hb : b = true) : i < n ∧ j < n ∧ (∀ k, ¬ WrapC R i k) ∧ Wk R i j x y := by
  rcases h with ⟨_, a, c, e1, e2, h1, h2, h3, h4⟩ | ⟨rfl, _⟩
  · obtain rfl : i = a := by omega
    obtain rfl : j = c := by omega
    exact ⟨h1, h2, h3, h4⟩
  · cases hb

theorem ofB.ff {n : Nat} {R : ER} {i j : Nat} {x y : Int} {b : Bool} (h : ofB n R (i : Nat) (j : Nat) x y b) (hb : b = false) : x = 0 ∧ y = 0 ∧ ¬ (i < n ∧ j < n ∧ Conn R i j ∧ ∀ k, ¬ WrapC R i k) := by
  rcases h with ⟨rfl, _⟩ | ⟨_, rfl, rfl, h⟩
  · cases hb
  · exact ⟨rfl, rfl, fun ⟨h1, h2, h3, h4⟩ => h ⟨i, j, rfl, rfl, h1, h2, h3, h4⟩⟩

theorem saB.iff {n : Nat} {R : ER} {i j : Nat} {b : Bool} (h : saB n R (i : Nat) (j : Nat) b) (hi : i < n) (hj : j < n) : b = true ↔ Conn R i j := by
  refine Iff.trans h ?_
  constructor
  · rintro ⟨a, c, e1, e2, _, _, hc⟩
    obtain rfl : i = a := by omega
    obtain rfl : j = c := by omega
    exact hc
  · intro hc; exact ⟨i, j, rfl, rfl, hi, hj, hc⟩

theorem tm_mul {w : Nat} (hw : 1 ≤ w) (m : Int) : Int.tmod (m * w) w = 0 := Int.mul_tmod_left m w

theorem g_law30_WrappingOffsets_true (a0 a1 : Int) (s : Sl) (a3 a4 a5 : Int) (h : Hp) (K : Bool → Hp → Prop) (w0 : 0 ≤ a0 ∧ a0 ≤ 255) (w1 : 0 ≤ a1 ∧ a1 ≤ 255) {M2 : List Value} (hr : Rd h 1 s M2) (hy : s.n ≤ 2 ^ 63 - 1)
    (hm : ∀ i j l, i < s.n → (List.replicate 1 (LK.int .u16))[j]? = some l → ∃ v, M2[i * 1 + j]? = some v ∧ okCell l v) (w3 : 0 ≤ a3 ∧ a3 ≤ 255) (w4 : 0 ≤ a4 ∧ a4 ≤ 255) (w5 : 0 ≤ a5 ∧ a5 ≤ 255) (hK : ∀ h', K true h') : g_law30_WrappingOffsets a0 a1 s a3 a4 a5 h K := by
  obtain ⟨l, rfl, hl⟩ := kints_of (.inr rfl) hr.len hm
  obtain ⟨A, rfl⟩ : ∃ A : Nat, a0 = A := ⟨a0.toNat, by omega⟩
  obtain ⟨B, rfl⟩ : ∃ B : Nat, a1 = B := ⟨a1.toNat, by omega⟩
  obtain ⟨i, rfl⟩ : ∃ i : Nat, a3 = i := ⟨a3.toNat, by omega⟩
  obtain ⟨j, rfl⟩ : ∃ j : Nat, a4 = j := ⟨a4.toNat, by omega⟩
  obtain ⟨k, rfl⟩ : ∃ k : Nat, a5 = k := ⟨a5.toNat, by omega⟩
  unfold g_law30_WrappingOffsets
  refine sizes_spec (by omega) (by omega) _ _ ?_
  obtain ⟨w, hw⟩ : ∃ w, w = 1 + A % 12 := ⟨_, rfl⟩
  obtain ⟨t, ht⟩ : ∃ t, t = 1 + B % 12 := ⟨_, rfl⟩
  rw [← hw, ← ht]
  have hw1 : 1 ≤ w ∧ w ≤ 12 := by omega
  have ht1 : 1 ≤ t ∧ t ≤ 12 := by omega
  clear hw ht
  have hn : w * t ≤ 144 := Nat.mul_le_mul hw1.2 ht1.2
  have hn1 : 1 ≤ w * t := Nat.mul_le_mul hw1.1 ht1.1
  have e1 : IntKind.i64.wrap ((w : Int) * t) = ((w * t : Nat) : Int) := by rw [← Int.natCast_mul, w64n (by omega)]
  simp only [w64, e1, idx_ok (show i < 256 by omega) hn1 (by omega), idx_ok (show j < 256 by omega) hn1 (by omega), idx_ok (show k < 256 by omega) hn1 (by omega)]
  have hi : i % (w * t) < w * t := Nat.mod_lt _ hn1
  have hj : j % (w * t) < w * t := Nat.mod_lt _ hn1
  have hk : k % (w * t) < w * t := Nat.mod_lt _ hn1
  generalize i % (w * t) = i at *
  generalize j % (w * t) = j at *
  generalize k % (w * t) = k at *
  clear w3 w4 w5
  refine New_e w t ⟨hw1.1, ht1.1, by omega⟩ _ _ fun h6 o d6 hlo f6 => cnd_f rfl ?_
  have q6 := d6.wt1; have z6 := f6.size
  refine edges_spec hn1 (by omega) hl false (hr.fr f6) (by have := hr.len; rw [kints_len] at this; omega) _ fun s1 h8 M1 l1 f8 i1 o1 _ n1 => ?_
  have z8 := f8.size
  refine put_spec (d6.fr f8) l1.rd (fun e he => bE_lt hn1 ((i1 e).1 he)) (by omega) (fun x hx => by have := (l1.blk_lt hx).1; omega) false _ fun h10 E c d10 f10 mE hc => ?_
  have hE : ∀ e ∈ E, e < 2 * (w * t) := fun e he => by
    rcases (mE e).1 he with q | q
    · cases q
    · exact bE_lt hn1 ((i1 e).1 q)
  have ti := TI.eR hw1.1 ht1.1 E hE
  refine cnd_f (by simp) ⟨by omega, by omega, by omega, ?_⟩
  refine Offset_e d10 _ _ _ fun h14 ax ay ab d14 _ v1 => Offset_e d14 _ _ _ fun h18 bx by' bc d18 _ v2 => Offset_e d18 _ _ _ fun h22 cx cy ac d22 _ v3 => Offset_e d22 _ _ _ fun h26 rx ry ba d26 _ v4 => Offset_e d26 _ _ _ fun h30 ox oy own d30 _ v5 => Wraps_e d30 _ fun b0 b1 x0 x1 => ?_
  clear d14 d18 d22 d26
  have hab : (ab == ba) = true := by
    rw [beq_iff_eq, Bool.eq_iff_iff]
    constructor
    · intro q
      obtain ⟨_, _, h3, h4⟩ := v1.tt q
      cases hba : ba with
      | true => rfl
      | false => exact absurd ⟨hj, hi, ⟨_, _, h4.symm⟩, fun k' w' => h3 k' (w'.move ⟨_, _, h4.symm⟩)⟩ (v4.ff hba).2.2
    · intro q
      obtain ⟨_, _, h3, h4⟩ := v4.tt q
      cases hba : ab with
      | true => rfl
      | false => exact absurd ⟨hi, hj, ⟨_, _, h4.symm⟩, fun k' w' => h3 k' (w'.move ⟨_, _, h4.symm⟩)⟩ (v1.ff hba).2.2
  have hba : ab = ba := by simpa using hab
  have bnd : ab = true → -(2 * ((w * t : Nat) : Int)) ≤ ax ∧ ax ≤ 2 * (w * t : Nat) ∧ -(2 * ((w * t : Nat) : Int)) ≤ ay ∧ ay ≤ 2 * (w * t : Nat) := fun q => by
    obtain ⟨_, _, h3, h4⟩ := v1.tt q
    exact ti.bound hi hj h3 h4
  have bnd0 : -300 ≤ ax ∧ ax ≤ 300 ∧ -300 ≤ ay ∧ ay ≤ 300 := by
    cases q : ab with
    | true => have := bnd q; omega
    | false => obtain ⟨e1, e2, _⟩ := v1.ff q; omega
  have hrx : rx = -ax ∧ ry = -ay := by
    cases q : ab with
    | true =>
      obtain ⟨_, _, h3, h4⟩ := v1.tt q
      obtain ⟨_, _, g3, g4⟩ := v4.tt (hba ▸ q)
      exact g4.uniq g3 h4.symm
    | false =>
      obtain ⟨e1, e2, _⟩ := v1.ff q
      obtain ⟨e3, e4, _⟩ := v4.ff (hba ▸ q)
      omega
  have hox : ox = 0 ∧ oy = 0 := by
    cases q : own with
    | true =>
      obtain ⟨_, _, h3, h4⟩ := v5.tt q
      exact h4.uniq h3 (.refl i)
    | false => obtain ⟨e1, e2, _⟩ := v5.ff q; exact ⟨e1, e2⟩
  have hown : ab = true → own = true := fun q => by
    obtain ⟨_, _, h3, h4⟩ := v1.tt q
    cases q5 : own with
    | true => rfl
    | false => exact absurd ⟨hi, hi, Conn.refl i, h3⟩ (v5.ff q5).2.2
  -- three vertices
  refine jn_of (fun _ h' => h' = h30) ?_ fun K36 hK36 => ?_
  case refine_2 =>
    have tail : cnd (!(ab == ba)) (K false h30) (cnd (rx != IntKind.i64.wrap (0 - ax)) (K false h30) (cnd (ry != IntKind.i64.wrap (0 - ay)) (K false h30) (cnd (ox != 0) (K false h30) (cnd (oy != 0) (K false h30) (K36 () h30))))) := by
      refine cnd_f (by rw [hab]; rfl) (cnd_f ?_ (cnd_f ?_ (cnd_f ?_ (cnd_f ?_ (hK36 _ _ rfl)))))
      · rw [w64_eq (by omega) (by omega), bne_eq_false_iff_eq]; omega
      · rw [w64_eq (by omega) (by omega), bne_eq_false_iff_eq]; omega
      · rw [bne_eq_false_iff_eq]; omega
      · rw [bne_eq_false_iff_eq]; omega
    refine cnd_of (fun q1 => cnd_of (fun q2 => ?_) fun _ => tail) fun _ => tail
    obtain ⟨_, _, g3, g4⟩ := v1.tt q1
    obtain ⟨_, _, f3, f4⟩ := v2.tt q2
    have hw3 := g4.trans f4
    have q3 : ac = true := by
      cases q : ac with
      | true => rfl
      | false => exact absurd ⟨hi, hk, ⟨_, _, hw3⟩, g3⟩ (v3.ff q).2.2
    obtain ⟨_, _, e3, e4⟩ := v3.tt q3
    obtain ⟨ex, ey⟩ := e4.uniq e3 hw3
    have b2 := ti.bound hj hk f3 f4
    have b1 := bnd q1
    refine cnd_f (by rw [q3]; rfl) (cnd_f ?_ (cnd_f ?_ tail))
    · rw [w64_eq (by omega) (by omega), bne_eq_false_iff_eq]; exact ex
    · rw [w64_eq (by omega) (by omega), bne_eq_false_iff_eq]; exact ey
  rintro ⟨⟩ _ rfl
  refine jn_of (fun _ h' => TS h' o w t (eR w t E)) ?_ fun K39 hK39 => cnd_of (fun q => ?_) fun _ => hK39 _ _ d30
  case refine_2 =>
    obtain ⟨_, _, g3, g4⟩ := v1.tt q
    refine Same_e d30 _ _ _ fun h65 b d65 _ sb => cnd_f (by rw [(sb.iff hi hj).2 ⟨_, _, g4⟩]; rfl) (cnd_f (by rw [hown q]; rfl) ⟨by omega, by omega, by omega, by omega, ?_⟩)
    have tI : Int.tmod ((i : Nat) : Int) w = ((i % w : Nat) : Int) := by rw [Int.tmod_eq_emod_of_nonneg (by omega), ← Int.natCast_emod]
    have tJ : Int.tmod ((j : Nat) : Int) w = ((j % w : Nat) : Int) := by rw [Int.tmod_eq_emod_of_nonneg (by omega), ← Int.natCast_emod]
    have uI : IntKind.i64.wrap (Int.tdiv ((i : Nat) : Int) w) = ((i / w : Nat) : Int) := by rw [Int.tdiv_eq_ediv_of_nonneg (by omega), ← Int.natCast_ediv, w64n (Nat.le_trans (Nat.div_le_self _ _) (by omega))]
    have uJ : IntKind.i64.wrap (Int.tdiv ((j : Nat) : Int) w) = ((j / w : Nat) : Int) := by rw [Int.tdiv_eq_ediv_of_nonneg (by omega), ← Int.natCast_ediv, w64n (Nat.le_trans (Nat.div_le_self _ _) (by omega))]
    have m1 : i % w < w := Nat.mod_lt _ hw1.1
    have m2 : j % w < w := Nat.mod_lt _ hw1.1
    have m3 : i / w ≤ i := Nat.div_le_self _ _
    have m4 : j / w ≤ j := Nat.div_le_self _ _
    have m5 : ((i / w : Nat) : Int) ≤ (i : Int) := Int.ofNat_le.2 m3
    have m6 : ((j / w : Nat) : Int) ≤ (j : Int) := Int.ofNat_le.2 m4
    have m7 : ((i % w : Nat) : Int) < (w : Int) := Int.ofNat_lt.2 m1
    have m8 : ((j % w : Nat) : Int) < (w : Int) := Int.ofNat_lt.2 m2
    have m9 := Int.natCast_nonneg (i / w)
    have m10 := Int.natCast_nonneg (j / w)
    have m11 := Int.natCast_nonneg (i % w)
    have m12 := Int.natCast_nonneg (j % w)
    obtain ⟨m, hm⟩ := g4.col hw1.1
    obtain ⟨m', hm'⟩ := g4.row hw1.1 ht1.1
    simp only [tI, tJ, uI, uJ]
    have z1 : IntKind.i64.wrap (IntKind.i64.wrap (((i % w : Nat) : Int) + ax) - ((j % w : Nat) : Int)) = -m * w := by
      rw [w64_eq (x := ((i % w : Nat) : Int) + ax) (by omega) (by omega), w64_eq (by omega) (by omega), Int.neg_mul]; omega
    have z2 : IntKind.i64.wrap (IntKind.i64.wrap (((i / w : Nat) : Int) + ay) - ((j / w : Nat) : Int)) = -m' * t := by
      rw [w64_eq (x := ((i / w : Nat) : Int) + ay) (by omega) (by omega), w64_eq (by omega) (by omega), Int.neg_mul]; omega
    rw [z1, z2, tm_mul hw1.1, tm_mul ht1.1]
    refine cnd_f ?_ ⟨by omega, by omega, by omega, by omega, cnd_f ?_ (hK39 _ _ d65)⟩
    · rw [w64_eq (by omega) (by omega), show (0 : Int) + w = 1 * w by omega, tm_mul hw1.1]; rfl
    · rw [w64_eq (by omega) (by omega), show (0 : Int) + t = 1 * t by omega, tm_mul ht1.1]; rfl
  rintro ⟨⟩ h38 d38
  have fin : cnd ab (g_law30_works h38 fun r h' => K r h') (g_wrapping_Torus_Same (some ⟨o.a, 0, none⟩) (i : Nat) (j : Nat) h38 fun r h43 => cnd (!r) (g_law30_works h43 fun r h' => K r h') (cnd (!own) (g_law30_works h43 fun r h' => K r h') (K false h43))) := by
    refine cnd_of (fun _ => works_spec _ _ fun h' _ => hK h') fun q => Same_e d38 _ _ _ fun h43 b _ _ sb => cnd_of (fun _ => works_spec _ _ fun h' _ => hK h') fun qb => cnd_of (fun _ => works_spec _ _ fun h' _ => hK h') fun qo => ?_
    exfalso
    have qb : b = true := by simpa using qb
    have qo : own = true := by simpa using qo
    obtain ⟨_, _, h3, _⟩ := v5.tt qo
    exact (v1.ff q).2.2 ⟨hi, hj, (sb.iff hi hj).1 qb, h3⟩
  refine cnd_of (fun _ => fin) fun qo => ?_
  have hwr : b0 = true ∨ b1 = true := by
    have := (v5.ff qo).2.2
    have : ∃ k, WrapC (eR w t E) i k := Classical.byContradiction fun hh => this ⟨hi, hi, Conn.refl i, fun k wk => hh ⟨k, wk⟩⟩
    obtain ⟨k, wk⟩ := this
    cases k
    · exact .inl (x0.2 ⟨i, hi, wk⟩)
    · exact .inr (x1.2 ⟨i, hi, wk⟩)
  exact cnd_of (fun _ => fin) fun q0 => cnd_of (fun _ => fin) fun q1 => by
    rcases hwr with q | q
    · rw [q0] at q; cases q
    · rw [q1] at q; cases q

/-! ### Tori that are not there -/

/-- No torus, or one that New did not make. -/
def ZT (h : Hp) (p : Option Addr) : Prop := p = none ∨ ∃ a, p = some ⟨a, 0, none⟩ ∧ h.blk a = some (.cells [.int .i64 0, .int .i64 0, .slice none 0 0, .slice none 0 0, .slice none 0 0, .slice none 0 0, .bool false, .bool false, .int .i64 0])

theorem zt_add {h : Hp} {p : Option Addr} (z : ZT h p) (x y d : Int) (K : Bool → Int → Hp → Prop) (hK : K false 1 h) : g_wrapping_Torus_Add p x y d h K := by
  unfold g_wrapping_Torus_Add
  refine jn_of (fun s h2 => s.1 = true ∧ h2 = h) ?_ fun K3 hK3 => ?_
  · rintro ⟨b, u⟩ _ ⟨rfl, rfl⟩; exact cnd_t rfl hK
  · rcases z with rfl | ⟨a, rfl, hb⟩
    · exact cnd_t rfl (hK3 _ _ ⟨rfl, rfl⟩)
    · refine cnd_f rfl (nn_of ?_)
      simp only [add_mk]
      exact ldI_of (by rw [cell_own hb]; rfl) (hK3 _ _ ⟨rfl, rfl⟩)

theorem zt_wraps {h : Hp} {p : Option Addr} (z : ZT h p) (K : Bool → Bool → Hp → Prop) (hK : K false false h) : g_wrapping_Torus_Wraps p h K := by
  unfold g_wrapping_Torus_Wraps
  rcases z with rfl | ⟨a, rfl, hb⟩
  · exact cnd_t rfl hK
  · refine cnd_f rfl (nn_of ⟨by omega, by omega, ?_⟩)
    simp only [add_mk]
    refine ldB_of (by rw [cell_own hb]; rfl) (nn_of ⟨by omega, by omega, ?_⟩)
    simp only [add_mk]
    exact ldB_of (by rw [cell_own hb]; rfl) hK

theorem zt_same {h : Hp} {p : Option Addr} (z : ZT h p) (a b : Int) (K : Bool → Hp → Prop) (hK : K false h) : g_wrapping_Torus_Same p a b h K := by
  unfold g_wrapping_Torus_Same g_wrapping_Torus_exists
  rcases z with rfl | ⟨x, rfl, hb⟩
  · exact cnd_f rfl (cnd_t rfl hK)
  · refine cnd_t rfl (cnd_of (fun c => nn_of ?_) fun c => cnd_t rfl hK)
    simp only [add_mk]
    refine ldS_of (by rw [cell_own hb]; rfl) (cnd_t ?_ hK)
    simp only [decide_eq_true_eq] at c
    simp only [Bool.not_eq_true', decide_eq_false_iff_not]
    revert c
    simp only [Int.ofNat_eq_natCast]
    split <;> split <;> omega

theorem zt_offset {h : Hp} {p : Option Addr} (z : ZT h p) (a b : Int) (K : Int → Int → Bool → Hp → Prop) (hK : K 0 0 false h) : g_wrapping_Torus_Offset p a b h K := by
  unfold g_wrapping_Torus_Offset
  exact zt_same z _ _ _ (cnd_t rfl hK)

theorem zt_count {h : Hp} {p : Option Addr} (z : ZT h p) (K : Int → Hp → Prop) (hK : K 0 h) : g_wrapping_Torus_Count p h K := by
  unfold g_wrapping_Torus_Count
  rcases z with rfl | ⟨a, rfl, hb⟩
  · exact cnd_t rfl hK
  · refine cnd_f rfl (nn_of ?_)
    simp only [add_mk]
    exact ldI_of (by rw [cell_own hb]; rfl) hK

theorem g_law30_WrappingNil_true (a b d : Int) (h : Hp) (K : Bool → Hp → Prop) (_wa : -9223372036854775808 ≤ a ∧ a ≤ 9223372036854775807) (_wb : -9223372036854775808 ≤ b ∧ b ≤ 9223372036854775807) (_wd : -9223372036854775808 ≤ d ∧ d ≤ 9223372036854775807) (hK : ∀ h', K true h') : g_law30_WrappingNil a b d h K := by
  unfold g_law30_WrappingNil
  refine alo_of fun h2 z2 b2 k2 => alo_of fun h4 z4 b4 k4 => ?_
  have e2 : h4.blk h.size = _ := (k4 _ (by omega)).trans b2
  refine for_of 2 (fun k (s : Int × Unit) g => s.1 = (k : Int) ∧ g = h4) ?_ ⟨rfl, rfl⟩
  rintro k Kr ⟨_, u⟩ g hk ⟨rfl, rfl⟩ hKr
  refine cnd_of (fun c => ?_) fun c => works_spec _ _ fun h' _ => hK h'
  simp only [decide_eq_true_eq, Int.ofNat_eq_natCast] at c
  have hk2 : k < 2 := by omega
  refine ix_of (by omega) (by simp only; omega) ?_
  simp only [add_mk, Nat.zero_add, Nat.mul_one, show Int.toNat (k : Int) = k from rfl]
  obtain ⟨p, hp, z⟩ : ∃ p, [Value.pointer none, .pointer (some ⟨h.size, 0, none⟩)][k]? = some (.pointer p) ∧ ZT g p := by
    have : k = 0 ∨ k = 1 := by omega
    rcases this with rfl | rfl
    · exact ⟨none, rfl, .inl rfl⟩
    · exact ⟨_, rfl, .inr ⟨_, rfl, e2⟩⟩
  refine ldP_of (by rw [cell_own b4]; exact hp) (zt_add z _ _ _ _ (zt_wraps z _ (zt_offset z _ _ _ ?_)))
  refine cnd_f rfl (cnd_f rfl (cnd_f rfl (cnd_f rfl (cnd_f rfl (cnd_f rfl (cnd_f rfl (zt_same z _ _ _ (cnd_f rfl (zt_same z _ _ _ ?_)))))))))
  refine cnd_f rfl (zt_count z _ (cnd_f rfl (hKr hk2 _ _ ⟨?_, rfl⟩)))
  simp only
  rw [w64, w64_eq (by omega) (by omega)]; omega

end Go.Hx
