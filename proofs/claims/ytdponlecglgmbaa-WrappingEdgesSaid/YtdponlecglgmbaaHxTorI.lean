/- The law about one edge more. No condition. -/
import Derived.Test.YtdponlecglgmbaaHxTorH
namespace Go.Hx
set_option linter.unusedSimpArgs false
set_option linter.unusedVariables false

theorem w16_ok {a n : Nat} (ha : a < 65536) (hn : 1 ≤ n) (hn' : n ≤ 8192) : Int.tmod (IntKind.i64.wrap (a : Int)) ((n : Nat) : Int) = ((a % n : Nat) : Int) := by
  rw [w64n (by omega), Int.tmod_eq_emod_of_nonneg (by omega), ← Int.natCast_emod]

theorem nat_div (e w : Nat) (h : e ≤ 2 ^ 40) : IntKind.i64.wrap (Int.tdiv (e : Int) (w : Int)) = ((e / w : Nat) : Int) := by
  rw [Int.tdiv_eq_ediv_of_nonneg (by omega), ← Int.natCast_ediv, w64n]
  exact Nat.le_trans (Nat.div_le_self _ _) (by omega)
theorem nat_mod (e w : Nat) : Int.tmod (e : Int) (w : Int) = ((e % w : Nat) : Int) := by
  rw [Int.tmod_eq_emod_of_nonneg (by omega), ← Int.natCast_emod]

theorem g_law30_WrappingEdges_true (a0 a1 : Int) (s : Sl) (a3 : Int) (h : Hp) (K : Bool → Hp → Prop) (w0 : 0 ≤ a0 ∧ a0 ≤ 255) (w1 : 0 ≤ a1 ∧ a1 ≤ 255) {M2 : List Value} (hr : Rd h 1 s M2) (hy : s.n ≤ 2 ^ 63 - 1)
    (hm : ∀ i j l, i < s.n → (List.replicate 1 (LK.int .u16))[j]? = some l → ∃ v, M2[i * 1 + j]? = some v ∧ okCell l v) (w3 : 0 ≤ a3 ∧ a3 ≤ 65535) (hK : ∀ h', K true h') : g_law30_WrappingEdges a0 a1 s a3 h K := by
  obtain ⟨l, rfl, hl⟩ := kints_of (.inr rfl) hr.len hm
  obtain ⟨A, rfl⟩ : ∃ A : Nat, a0 = A := ⟨a0.toNat, by omega⟩
  obtain ⟨B, rfl⟩ : ∃ B : Nat, a1 = B := ⟨a1.toNat, by omega⟩
  obtain ⟨c, rfl⟩ : ∃ c : Nat, a3 = c := ⟨a3.toNat, by omega⟩
  unfold g_law30_WrappingEdges
  refine sizes_spec (by omega) (by omega) _ _ ?_
  obtain ⟨w, hw⟩ : ∃ w, w = 1 + A % 12 := ⟨_, rfl⟩
  obtain ⟨t, ht⟩ : ∃ t, t = 1 + B % 12 := ⟨_, rfl⟩
  rw [← hw, ← ht]
  have hw1 : 1 ≤ w ∧ w ≤ 12 := by omega
  have ht1 : 1 ≤ t ∧ t ≤ 12 := by omega
  clear hw ht
  have hn : w * t ≤ 144 := Nat.mul_le_mul hw1.2 ht1.2
  have hn1 : 1 ≤ w * t := Nat.mul_le_mul hw1.1 ht1.1
  have e1 : IntKind.i64.wrap ((w : Int) * t) = ((w * t : Nat) : Int) := by rw [← Int.natCast_mul, w64n (by omega)]
  have e2 : IntKind.i64.wrap (IntKind.i64.wrap (2 * (w : Int)) * t) = ((2 * (w * t) : Nat) : Int) := by
    rw [show (2 * (w : Int)) = ((2 * w : Nat) : Int) by omega, w64n (by omega), ← Int.natCast_mul, w64n (by rw [Nat.mul_assoc]; omega), Nat.mul_assoc]
  have hel : c % (2 * (w * t)) < 2 * (w * t) := Nat.mod_lt _ (by omega)
  simp only [w64, e1, e2, w16_ok (show c < 65536 by omega) (show 1 ≤ 2 * (w * t) by omega) (by omega)]
  generalize c % (2 * (w * t)) = e at *
  clear w3
  have t1 : IntKind.i64.wrap (Int.tdiv (e : Int) 2) = ((e / 2 : Nat) : Int) := nat_div e 2 (by omega)
  have hv : e / 2 < w * t := by omega
  have t2 : Int.tmod ((e / 2 : Nat) : Int) (w : Int) = ((e / 2 % w : Nat) : Int) := nat_mod _ _
  have t3 : IntKind.i64.wrap (Int.tdiv ((e / 2 : Nat) : Int) (w : Int)) = ((e / 2 / w : Nat) : Int) := nat_div _ _ (by omega)
  have t4 : Int.tmod (e : Int) 2 = ((e % 2 : Nat) : Int) := nat_mod e 2
  have m1 : e / 2 % w < w := Nat.mod_lt _ hw1.1
  have m2 : e / 2 / w < t := (Nat.div_lt_iff_lt_mul (by omega)).2 (by rw [Nat.mul_comm]; exact hv)
  simp only [t1, t2, t3, t4]
  refine New_e w t ⟨hw1.1, ht1.1, by omega⟩ _ _ fun h6 o d6 hlo f6 => cnd_f rfl ?_
  have q6 := d6.wt1; have z6 := f6.size
  refine edges_spec hn1 (by omega) hl false (hr.fr f6) (by have := hr.len; rw [kints_len] at this; omega) _ fun s1 h8 M1 l1 f8 i1 o1 _ n1 => ?_
  have z8 := f8.size
  refine put_spec (d6.fr f8) l1.rd (fun e he => bE_lt hn1 ((i1 e).1 he)) (by omega) (fun x hx => by have := (l1.blk_lt hx).1; omega) false _ fun h10 E c d10 f10 mE hc => ?_
  have hE : ∀ e ∈ E, e < 2 * (w * t) := fun e he => by
    rcases (mE e).1 he with q | q
    · cases q
    · exact bE_lt hn1 ((i1 e).1 q)
  have ti := TI.eR hw1.1 ht1.1 E hE
  obtain ⟨z, hz⟩ : ∃ z, z = toV w t (e / 2) (e % 2) := ⟨_, rfl⟩
  have hzl : z < w * t := by rw [hz]; exact toV_lt hw1.1 ht1.1 hv
  obtain ⟨_, ca, cb, cw⟩ := ti.add (p := stX (e % 2)) (q := stY (e % 2)) hv hzl (st_le _)
  rw [hz, addE_eR, ← hz] at ca cb cw
  refine cnd_f (by simp) ⟨by omega, by omega, by omega, by omega, by omega, ?_⟩
  refine jn_of (fun s h' => s.1 = (z : Int) ∧ h' = h10) ?_ fun K13 hK13 => ⟨by omega, cnd_of (fun q => ?_) fun q => ?_⟩
  case refine_2 =>
    have hD : e % 2 = 1 := by simp only [beq_iff_eq] at q; omega
    refine ⟨by omega, by omega, by omega, hK13 _ _ ⟨?_, rfl⟩⟩
    have x1 : IntKind.i64.wrap (((e / 2 / w : Nat) : Int) + 1) = ((e / 2 / w + 1 : Nat) : Int) := by rw [← w64n (n := e / 2 / w + 1) (by omega)]; rfl
    have hm : (e / 2 / w + 1) % t < t := Nat.mod_lt _ ht1.1
    have hl2 := vtx_lt m1 hm
    simp only [x1, nat_mod]
    rw [← Int.natCast_mul, w64n (by omega), ← Int.natCast_add, w64n (by omega), hz]
    simp [toV, hD]
  case refine_3 =>
    have hD : e % 2 = 0 := by simp only [beq_eq_false_iff_ne] at q; omega
    refine hK13 _ _ ⟨?_, rfl⟩
    have x1 : IntKind.i64.wrap (((e / 2 % w : Nat) : Int) + 1) = ((e / 2 % w + 1 : Nat) : Int) := by rw [← w64n (n := e / 2 % w + 1) (by omega)]; rfl
    have hm : (e / 2 % w + 1) % w < w := Nat.mod_lt _ hw1.1
    have hl2 := vtx_lt hm m2
    simp only [x1, nat_mod]
    rw [← Int.natCast_mul, w64n (by omega), ← Int.natCast_add, w64n (by omega), hz]
    simp [toV, hD]
  rintro ⟨_, u⟩ _ ⟨rfl, rfl⟩
  refine Offset_e d10 _ _ _ fun h17 dx dy ok d17 _ vo => Same_e d17 _ _ _ fun h19 same d19 _ vs => Count_e d19 _ (Wraps_e d19 _ fun b0 b1 x0 x1 => ⟨by omega, by omega, by omega, ?_⟩)
  have vs := vs.iff hv hzl
  refine Add_e d19 e hel _ fun h27 b d27 _ hb _ => Wraps_e d27 _ fun b2 b3 x2 x3 => cnd_f rfl ?_
  rw [← hz] at hb
  have hbs : b = !same := by
    rw [Bool.eq_iff_iff, hb, ← vs]
    cases same <;> simp
  refine cnd_f (by rw [hbs]; cases same <;> rfl) (Same_e d27 _ _ _ fun h32 s32 d32 _ vs2 => cnd_f ?_ ?_)
  · have : Conn (eR w t (e :: E)) (e / 2) z := by rw [hz]; exact Conn.one (eR_mem e List.mem_cons_self)
    rw [(vs2.iff hv hzl).2 this]; rfl
  have wk : ∀ k (x y : Bool), wrB (w * t) (eR w t E) k x → wrB (w * t) (eR w t (e :: E)) k y → (y = true ↔ x = true ∨ ∃ p q, Wk (eR w t E) (e / 2) z p q ∧ pr k p q ≠ pr k (stX (e % 2)) (stY (e % 2))) := fun k x y hx hy => by
    have hx : x = true ↔ _ := hx
    have hy : y = true ↔ _ := hy
    rw [hy, cw k, hx]
  have k0 := wk false b0 b2 x0 x2
  have k1 := wk true b1 b3 x1 x3
  have cn1 := compN_le (w * t) (eR w t E)
  have cn2 := compN_le (w * t) (eR w t (e :: E))
  refine cnd_of (fun qb => ?_) fun qb => ?_
  · have hnc : ¬ Conn (eR w t E) (e / 2) z := hb.1 qb
    have cc := cb hnc
    refine Count_e d32 _ (cnd_t ?_ (cnd_t ?_ (cnd_t ?_ (works_spec _ _ fun h' _ => hK h'))))
    · rw [w64_eq (by omega) (by omega), beq_iff_eq]; omega
    · rw [beq_iff_eq, Bool.eq_iff_iff, k0]
      exact ⟨fun q => q.elim id fun ⟨p, q, hw, _⟩ => absurd ⟨p, q, hw⟩ hnc, .inl⟩
    · rw [beq_iff_eq, Bool.eq_iff_iff, k1]
      exact ⟨fun q => q.elim id fun ⟨p, q, hw, _⟩ => absurd ⟨p, q, hw⟩ hnc, .inl⟩
  · have hcn : Conn (eR w t E) (e / 2) z := Classical.byContradiction fun q => by rw [hb.2 q] at qb; cases qb
    have cc := ca hcn
    refine jn_of (fun _ h' => TS h' o w t (eR w t (e :: E))) ?_ fun K39 hK39 => Count_e d32 _ (cnd_f ?_ ?_)
    case refine_2 => rw [bne_eq_false_iff_eq]; omega
    case refine_3 =>
      have imp0 : b0 = true → b2 = true := fun q => k0.2 (.inl q)
      have imp1 : b1 = true → b3 = true := fun q => k1.2 (.inl q)
      refine cnd_of (fun q0 => cnd_f (by rw [imp0 q0]; rfl) (cnd_of (fun q1 => cnd_f (by rw [imp1 q1]; rfl) (hK39 _ _ d32)) fun _ => hK39 _ _ d32)) fun _ => cnd_of (fun q1 => cnd_f (by rw [imp1 q1]; rfl) (hK39 _ _ d32)) fun _ => hK39 _ _ d32
    rintro ⟨⟩ h38 d38
    refine cnd_of (fun _ => works_spec _ _ fun h' _ => hK h') fun qo => ?_
    have qo : ok = true := by simpa using qo
    obtain ⟨_, _, g3, g4⟩ := vo.tt qo
    have n0 : b2 = (b0 || (dx != stX (e % 2))) := by
      rw [Bool.eq_iff_iff, k0, Bool.or_eq_true, bne_iff_ne]
      refine or_congr Iff.rfl ⟨fun ⟨p, q, hw, hne⟩ => ?_, fun hne => ⟨_, _, g4, hne⟩⟩
      rw [(g4.uniq g3 hw).1]; exact hne
    have n1 : b3 = (b1 || (dy != stY (e % 2))) := by
      rw [Bool.eq_iff_iff, k1, Bool.or_eq_true, bne_iff_ne]
      refine or_congr Iff.rfl ⟨fun ⟨p, q, hw, hne⟩ => ?_, fun hne => ⟨_, _, g4, hne⟩⟩
      rw [(g4.uniq g3 hw).2]; exact hne
    have sx : IntKind.i64.wrap (1 - ((e % 2 : Nat) : Int)) = stX (e % 2) := by
      unfold stX
      rw [w64_eq (by omega) (by omega)]
      split <;> omega
    have sy : ((e % 2 : Nat) : Int) = stY (e % 2) := by
      unfold stY
      split <;> omega
    have fin : g_law30_works h38 fun r h' => K r h' := works_spec _ _ fun h' _ => hK h'
    rw [sx]
    simp only [sy]
    rw [n0, n1]
    cases b0 <;> cases b1
    · exact cnd_f rfl ⟨by omega, cnd_t (by simp) (cnd_f rfl ⟨by omega, cnd_t (by simp) fin⟩)⟩
    · exact cnd_f rfl ⟨by omega, cnd_t (by simp) (cnd_t rfl (cnd_t (by simp) fin))⟩
    · exact cnd_t rfl (cnd_t (by simp) (cnd_f rfl ⟨by omega, cnd_t (by simp) fin⟩))
    · exact cnd_t rfl (cnd_t (by simp) (cnd_t rfl (cnd_t (by simp) fin)))

end Go.Hx
