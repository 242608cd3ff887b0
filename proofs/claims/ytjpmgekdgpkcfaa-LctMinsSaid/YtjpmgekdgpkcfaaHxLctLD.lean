/- Link-cut forests: the law on first vertices. No condition. -/
import Derived.Test.YtjpmgekdgpkcfaaHxLctLC
namespace Go.Hx
set_option linter.unusedSimpArgs false
set_option linter.unusedVariables false

theorem mem_getD {p : List Nat} {w : Nat} (h : w ∈ p) : ∃ i, i < p.length ∧ p.getD i 0 = w := by
  obtain ⟨i, hi, e⟩ := List.getElem_of_mem h
  exact ⟨i, hi, by simp [List.getD, List.getElem?_eq_getElem hi, e]⟩

set_option maxHeartbeats 1000000 in
theorem g_law12_LctMins_true (x : Int) (l ks : Sl) (h : Hp) (K : Bool → Hp → Prop) (_ : -9223372036854775808 ≤ x ∧ x ≤ 9223372036854775807) {M : List Int} (hM : Rd h 2 l (ints M)) (hy : l.n ≤ 2 ^ 63 - 1)
    (_ : ∀ x ∈ M, -9223372036854775808 ≤ x ∧ x ≤ 9223372036854775807) {M2 : List Int} (hM2 : Rd h 1 ks (ints M2)) (hy2 : ks.n ≤ 2 ^ 63 - 1)
    (_ : ∀ x ∈ M2, -9223372036854775808 ≤ x ∧ x ≤ 9223372036854775807) (hK : ∀ h', K true h') : g_law12_LctMins x l ks h K := by
  unfold g_law12_LctMins
  refine small12_spec _ _ _ _ fun r1 e1 => cnd_of (fun _ => works_spec _ _ fun h' _ => hK h') fun q => ?_
  obtain ⟨⟨q1, q2⟩, q3⟩ := e1.1 (by simpa using q)
  obtain ⟨n, rfl⟩ : ∃ n : Nat, x = n := ⟨x.toNat, by omega⟩
  refine grown_spec n (by omega) hM q3 (fun _ _ => True) trivial (fun _ _ _ _ _ _ _ _ _ => trivial) _ fun h7 a b L s d f7 ha hb ls na nbb hL _ => cnd_f rfl ?_
  have fo := d.fo
  have bd := d.bd
  have th : ∀ {g g' : Hp}, Fr h.size h g → FrB a b g g' → Fr h.size h g' := fun f g => f.thenB g (Nat.le_refl _) ha hb
  refine jn_of (fun _ g => ∃ key, LT g a b n L key ∧ Fr h.size h g) ?_ fun K10 hK10 => ?_
  rotate_left
  · refine for_of n (fun k (st : Int × Unit) g => st.1 = (k : Int) ∧ ∃ key, LT g a b n L key ∧ Fr h.size h g) ?_ ⟨rfl, _, d, f7⟩
    rintro k Kr ⟨st, _⟩ g hk ⟨rfl, key, dg, fg⟩ hKr
    refine cnd_of (fun c => cnd_of (fun c2 => ?_) fun c2 => hK10 _ _ ⟨key, dg, fg⟩) fun c => hK10 _ _ ⟨key, dg, fg⟩
    simp only [decide_eq_true_eq, Int.ofNat_eq_natCast] at c c2
    have hkn : k < n := by omega
    refine ix_ld1 (hM2.fr fg) (by omega) (by omega) rfl ?_
    refine T_set dg _ _ _ (fun q => absurd ⟨by omega, by omega⟩ q) fun v h49 hv hvn d49 f49 => cnd_f rfl ?_
    obtain rfl : k = v := by omega
    have f49' := th fg f49
    refine ix_rd (hM2.fr f49') (by omega) (by omega) (by omega) fun a1 y1 c1 => ?_
    have c10 := c1 0 (by omega)
    simp only [Nat.add_zero] at c10
    refine ldI_of c10 (T_key d49 _ _ ?_)
    rw [if_pos ⟨by omega, by omega⟩]
    refine ⟨by rw [add_add _ _ _ y1]; exact c10, cnd_f ?_ (hKr hkn _ _ ⟨wsucc (by omega), _, d49, f49'⟩)⟩
    simp [keyS]
  rintro ⟨⟩ h9 ⟨key, d9, f9⟩
  refine for_of n (fun j (st : Int × Unit) g => st.1 = ((3 * j : Nat) : Int) ∧ LT g a b n L key ∧ Fr h.size h g) ?_ ⟨rfl, d9, f9⟩
  rintro j Kr ⟨st, _⟩ g hj ⟨rfl, dg, fg⟩ hKr
  refine cnd_of (fun c => ?_) fun c => works_spec _ _ fun h' _ => hK h'
  simp only [decide_eq_true_eq] at c
  have w3 : w64 (((3 * j : Nat) : Int) + 3) = ((3 * (j + 1) : Nat) : Int) := by rw [w64, w64_eq (by omega) (by omega)]; omega
  refine T_path dg _ _ _ fun s1 h15 p d15 f15 l15 hp => T_min d15 _ _ _ fun m ok h18 p' d18 f18 hp' hm => ?_
  obtain rfl := hp'.uniq fo hp
  obtain ⟨hple, hplt⟩ := hp.le fun u v c hu => Cn_lt bd c hu
  have l15n := l15.1
  rw [ints_len, nats_len] at l15n
  have f15' := th fg f15
  have f18' := th f15' f18
  have hokl : ok = true ↔ 0 < p'.length := by
    rcases hm with ⟨rfl, _, rfl⟩ | ⟨w, hw, _, rfl, _⟩
    · simp
    · exact ⟨fun _ => List.length_pos_of_mem hw, fun _ => rfl⟩
  have he : ok = decide ((Int.ofNat s1.n) > 0) := by
    rw [Bool.eq_iff_iff, hokl]
    simp only [decide_eq_true_eq, Int.ofNat_eq_natCast]; omega
  refine cnd_f (by rw [← he]; simp) ?_
  have R1 : Rd h18 1 s1 (ints (nats p')) := (l15.keepB f18 (fun y hy => by have := (l15.blk_lt hy).1; have := dg.lt; omega) fun y hy => by have := (l15.blk_lt hy).1; have := dg.lt; omega).rd
  -- the first one is on the way, and none is before it
  refine for_of p'.length (fun i (st : Bool × Int × Unit) g' => st.2.1 = (i : Int) ∧ g' = h18 ∧ (st.1 = true ∨ ∃ k, i ≤ k ∧ k < p'.length ∧ ((p'.getD k 0 : Nat) : Int) = m)) ?_ ⟨rfl, rfl, ?_⟩
  rotate_left
  · rcases hm with ⟨_, _, rfl⟩ | ⟨w, hw, rfl, _, _⟩
    · exact .inl rfl
    · obtain ⟨k, h1, h2⟩ := mem_getD hw
      exact .inr ⟨k, Nat.zero_le _, h1, by rw [h2]⟩
  rintro i Kx ⟨on, st, _⟩ g' hi ⟨rfl, rfl, hon⟩ hKx
  simp only at hon
  refine cnd_of (fun c2 => ?_) fun c2 => ?_
  rotate_left
  · simp only [decide_eq_false_iff_not, Int.ofNat_eq_natCast] at c2
    have : on = true := hon.resolve_right fun ⟨k, h1, h2, _⟩ => by omega
    subst this
    exact cnd_f rfl (hKr (by omega) _ _ ⟨w3, d18, f18'⟩)
  simp only [decide_eq_true_eq, Int.ofNat_eq_natCast] at c2
  have hil : i < p'.length := by omega
  rcases hm with ⟨rfl, _, _⟩ | ⟨w, hw, rfl, _, hmin⟩
  · simp at hil
  have wn : w < n := hplt w hw
  have pn := hplt _ (getD_mem' hil)
  have nb := hmin _ (getD_mem' hil)
  have P : (nats p').getD (Int.toNat (i : Int)) 0 = (p'.getD i 0 : Nat) := by rw [Int.toNat_natCast, nats_getD]
  have i0 : (0 : Int) ≤ (i : Int) := by omega
  have i1 : (i : Int) < (s1.n : Int) := by omega
  refine jn_of (fun (st : Bool × Unit) g2 => g2 = g' ∧ (st.1 = true ∨ ∃ k, i + 1 ≤ k ∧ k < p'.length ∧ ((p'.getD k 0 : Nat) : Int) = (w : Int))) ?_ fun K24 hK24 => ?_
  rotate_left
  · refine cnd_of (fun _ => hK24 _ _ ⟨rfl, .inl rfl⟩) fun c3 => ix_ld1 R1 i0 i1 rfl (hK24 _ _ ⟨rfl, ?_⟩)
    rw [P]
    simp only at c3
    obtain ⟨k, k1, k2, k3⟩ := hon.resolve_left (by rw [c3]; simp)
    by_cases e : k = i
    · left; subst e; show (((p'.getD k 0 : Nat) : Int) == (w : Int)) = true; rw [k3]; simp
    · exact .inr ⟨k, by omega, k2, k3⟩
  rintro ⟨on', _⟩ g' ⟨rfl, hon'⟩
  have ky : ∀ (z : Nat) (K : Int → Hp → Prop), z < n → K (key z) g' → g_lct_Forest_Key (some ⟨a, 0, none⟩) (z : Int) g' K := fun z K hz hk => T_key d18 _ _ (by rw [if_pos ⟨by omega, by omega⟩]; simpa using hk)
  refine ix_ld1 R1 i0 i1 rfl ?_
  rw [P]
  refine ky _ _ pn (ky _ _ wn (cnd_f ?_ (ix_ld1 R1 i0 i1 rfl ?_)))
  · simp only [decide_eq_false_iff_not]; unfold bk at nb; omega
  rw [P]
  have fin := hKx hil (on', w64 ((i : Int) + 1), ()) g' ⟨wsucc (by omega), rfl, hon'⟩
  refine ky _ _ pn (ky _ _ wn (cnd_of (fun c4 => ix_ld1 R1 i0 i1 rfl ?_) fun _ => fin))
  rw [P]
  refine cnd_f ?_ fin
  simp only [decide_eq_false_iff_not, beq_iff_eq] at c4 ⊢
  unfold bk at nb; omega

end Go.Hx
