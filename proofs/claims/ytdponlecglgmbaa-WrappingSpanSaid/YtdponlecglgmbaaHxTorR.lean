/- First against the document's: Firsts. No condition. -/
import Derived.Test.YtdponlecglgmbaaHxTorQ
namespace Go.Hx
set_option linter.unusedSimpArgs false
set_option linter.unusedVariables false

theorem setTrue_getD {B : List Bool} {e f : Nat} (hf : f < B.length) : (B.set e true).getD f false = if e = f then true else B.getD f false := by
  simp only [List.getD, List.getElem?_set]
  by_cases q : e = f
  · subst q; simp [hf]
  · simp [q]

theorem rFirst_spec (x y : Int) (s : Sl) (M : List Int) (h : Hp) (K : Int → Bool → Int → Hp → Prop) (hr : Rd h 1 s (ints M)) (hl : M.length < 2 ^ 40)
    (hbad : ∀ h', Fr h.size h h' → ¬ goodT x y ∨ (∃ w t : Nat, x = w ∧ y = t ∧ ¬ okOrd (w * t) M) → K 0 false 2 h')
    (hno : ∀ h', Fr h.size h h' → ∀ w t : Nat, x = w → y = t → goodT x y → okOrd (w * t) M → ¬ wrapped (w * t) (eR w t (ordE M M.length)) → K 0 false 0 h')
    (hyes : ∀ h', Fr h.size h h' → ∀ w t k : Nat, x = w → y = t → goodT x y → okOrd (w * t) M → k < M.length → wrapped (w * t) (eR w t (ordE M (k + 1))) → ¬ wrapped (w * t) (eR w t (ordE M k)) → K ((k + 1 : Nat) : Int) true 0 h') :
    g_ref30_First x y s h K := by
  have hsn : s.n = M.length := by have := hr.ilen; omega
  unfold g_ref30_First
  refine rNew_spec _ _ _ _ (fun g => cnd_t rfl (hbad h (Fr.refl _ _) (.inl g))) fun w t hx hy h3 d f3 => cnd_f rfl ?_
  subst hx hy
  have hw1 := d.w1; have ht1 := d.t1; have hn := d.wt
  have g : goodT (w : Int) (t : Int) := ⟨by omega, by omega, by rw [← Int.natCast_mul]; omega⟩
  have e1 : IntKind.i64.wrap (IntKind.i64.wrap (2 * (w : Int)) * t) = ((2 * (w * t) : Nat) : Int) := by
    have hwn : w ≤ w * t := Nat.le_mul_of_pos_right _ ht1
    rw [show (2 * (w : Int)) = ((2 * w : Nat) : Int) by omega, w64n (by omega), ← Int.natCast_mul, w64n (by rw [Nat.mul_assoc]; omega), Nat.mul_assoc]
  simp only [w64, e1]
  have z3 := f3.size; have la := d.la
  refine mks_of (by omega) (by omega) (by omega) fun h5 z5 b5 k5 => ?_
  rw [zrow_one, Int.toNat_natCast] at b5
  have b5 : h5.blk h3.size = some (.cells (bools (List.replicate (2 * (w * t)) false))) := by rw [b5]; simp [bools]
  have f5 : Fr h.size h h5 := ⟨by omega, fun c hc => by rw [k5 _ (by omega), f3.blk _ hc]⟩
  have d5 := d.fr (h' := h5) ⟨by omega, k5⟩
  refine jn_of (fun _ h7 => okOrd (w * t) M ∧ Fr h.size h h7 ∧ h5.size ≤ h7.size ∧ RS h7 h.size (h.size + 1) w t []) ?_ fun K8 hK8 => ?_
  case refine_2 =>
    refine for_of M.length (fun k (s : Int × Unit) g => s.1 = (k : Int) ∧ g.size = h5.size ∧ (∃ B : List Bool, B.length = 2 * (w * t) ∧ g.blk h3.size = some (.cells (bools B)) ∧ ∀ e, e < 2 * (w * t) → (B.getD e false = true ↔ ∃ i, i < k ∧ M.getD i 0 = (e : Int))) ∧ (∀ c, c ≠ h3.size → g.blk c = h5.blk c) ∧
      (∀ i, i < k → 0 ≤ M.getD i 0 ∧ M.getD i 0 < 2 * ((w * t : Nat) : Int)) ∧ ∀ i j, i < j → j < k → M.getD i 0 ≠ M.getD j 0) ?_ ⟨rfl, rfl, ⟨List.replicate (2 * (w * t)) false, by simp, b5, fun e he => ?_⟩, fun _ _ => rfl, fun i hi => by omega, fun i j _ hj => by omega⟩
    · rintro k Kr ⟨_, u⟩ g' hk ⟨rfl, zg, ⟨B, lB, gB, iff⟩, gk, rng, dis⟩ hKr
      have fg : Fr h.size h g' := ⟨by omega, fun c hc => by rw [gk _ (by omega), f5.blk _ hc]⟩
      refine cnd_of (fun c => ?_) fun c => ?_
      · simp only [decide_eq_true_eq, hsn, Int.ofNat_eq_natCast] at c
        have hkl : k < M.length := by omega
        have ld : ∀ (X : Int → Prop), X (M.getD k 0) → ix s.a s.n (k : Int) fun a => ldI .i64 g' (a.add (Int.toNat (k : Int) * 1)) X := fun X hX => ix_ld1 (hr.fr fg) (by omega) (by rw [hsn]; omega) rfl hX
        refine ld _ (cnd_of (fun c1 => hbad g' fg (.inr ⟨w, t, rfl, rfl, fun ok => ?_⟩)) fun c1 => ld _ (cnd_of (fun c2 => hbad g' fg (.inr ⟨w, t, rfl, rfl, fun ok => ?_⟩)) fun c2 => ld _ ?_))
        · have := ok.1 k hkl; simp only [decide_eq_true_eq] at c1; omega
        · have := ok.1 k hkl; simp only [decide_eq_true_eq] at c2; omega
        simp only [decide_eq_false_iff_not] at c1 c2
        obtain ⟨e, he⟩ : ∃ e : Nat, M.getD k 0 = (e : Int) := ⟨(M.getD k 0).toNat, by omega⟩
        have hel : e < 2 * (w * t) := by omega
        rw [he] at ld ⊢
        refine ix_of (by omega) (by simp only [Int.toNat_natCast]; omega) ?_
        simp only [add_mk, Nat.zero_add, Nat.add_zero, Nat.mul_one, show Int.toNat (e : Int) = e from rfl]
        refine ldB_of (by rw [cell_own gB, bools_get (by omega)]) (cnd_of (fun c3 => hbad g' fg (.inr ⟨w, t, rfl, rfl, fun ok => ?_⟩)) fun c3 => ?_)
        · obtain ⟨i, hi, e'⟩ := (iff e hel).1 c3
          exact ok.2 i k hi hkl (by rw [e', he])
        have := ld (fun n33 => ix (some ⟨h3.size, 0, none⟩) (2 * (w * t)) n33 fun a34 => stc g' ((a34.add (Int.toNat n33 * 1)).add 0) (.bool true) fun h35 => Kr (IntKind.i64.wrap ((k : Int) + 1), ()) h35) (ix_of (by omega) (by omega) ?_)
        · simpa only [add_mk, Nat.zero_add, Nat.add_zero, Nat.mul_one, Int.toNat_natCast] using this
        · simp only [add_mk, Nat.zero_add, Nat.add_zero, Nat.mul_one, Int.toNat_natCast]
          refine stc_of gB (by rw [bools_len]; omega) fun g2 z2 b2 k2 => hKr hkl _ _ ⟨?_, by omega, ⟨B.set e true, by simp [lB], by rw [b2, bools_set], fun f hf => ?_⟩, fun c hc => by rw [k2 _ hc, gk _ hc], fun i hi => ?_, fun i j hij hj => ?_⟩
          · simp only; rw [w64_eq (by omega) (by omega)]; omega
          · rw [setTrue_getD (by omega)]
            by_cases q : e = f
            · subst q; simp only [if_true, true_iff]; exact ⟨k, by omega, he⟩
            · rw [if_neg q, iff f hf]
              constructor
              · intro ⟨i, hi, e'⟩; exact ⟨i, by omega, e'⟩
              · intro ⟨i, hi, e'⟩
                by_cases hik : i = k
                · subst hik; rw [he] at e'; omega
                · exact ⟨i, by omega, e'⟩
          · by_cases hik : i = k
            · subst hik; omega
            · exact rng i (by omega)
          · by_cases hjk : j = k
            · subst hjk
              intro e'
              have := (iff e hel).2 ⟨i, hij, by rw [e', he]⟩
              rw [c3] at this; cases this
            · exact dis i j hij (by omega)
      · simp only [decide_eq_false_iff_not, hsn, Int.ofNat_eq_natCast] at c
        have : k = M.length := by omega
        subst this
        exact hK8 _ _ ⟨⟨rng, dis⟩, fg, by omega, d5.keep (by omega) fun c hc1 hc2 => gk _ (by omega)⟩
    · constructor
      · intro q
        simp only [List.getD, List.getElem?_replicate] at q
        split at q <;> cases q
      · intro ⟨i, hi, _⟩; omega
  rintro ⟨⟩ h7 ⟨ok, f7, z7, d7⟩
  refine for_of M.length (fun k (s : Int × Unit) g => s.1 = (k : Int) ∧ Fr h.size h g ∧ RS g h.size (h.size + 1) w t (ordE M k) ∧ ¬ wrapped (w * t) (eR w t (ordE M k))) ?_ ⟨rfl, f7, d7, ?_⟩
  case refine_2 =>
    rintro ⟨v, _, k, xx, yy, hc, hne⟩
    have := (hc.pot k (fun _ => True) (fun _ => 0) (fun _ _ _ _ _ => Iff.rfl) (fun b c s q e => (by obtain ⟨f, hf, _⟩ := e; cases hf)) trivial).2
    omega
  rintro k Kr ⟨_, u⟩ g' hk ⟨rfl, fg, dg, nw⟩ hKr
  refine cnd_of (fun c => ?_) fun c => ?_
  · simp only [decide_eq_true_eq, hsn, Int.ofNat_eq_natCast] at c
    have hkl : k < M.length := by omega
    have hr' := ok.1 k hkl
    obtain ⟨e, he⟩ : ∃ e : Nat, M.getD k 0 = (e : Int) := ⟨(M.getD k 0).toNat, by omega⟩
    have hel : e < 2 * (w * t) := by omega
    refine nn_of ?_
    simp only [add_mk, Nat.zero_add]
    refine ldS_of (by rw [dg.cell]; rfl) ?_
    obtain ⟨Bs, lB, bB, iff⟩ := dg.bh
    refine ix_ld1 (K := fun n15 => ix (some ⟨h.size, 0, none⟩) (2 * (w * t)) n15 fun a16 => stc g' ((a16.add (Int.toNat n15 * 1)).add 0) (.bool true) _) (hr.fr fg) (by omega) (by rw [hsn]; omega) rfl ?_
    rw [show Int.toNat (k : Int) = k from rfl, he]
    refine ix_of (by omega) (by omega) ?_
    simp only [add_mk, Nat.zero_add, Nat.add_zero, Nat.mul_one, Int.toNat_natCast]
    refine stc_of bB (by rw [bools_len]; omega) fun g2 z2 b2 k2 => ?_
    have mE : ∀ f, f ∈ ordE M (k + 1) ↔ e = f ∨ f ∈ ordE M k := fun f => by
      rw [ordE_mem, ordE_mem]
      constructor
      · rintro ⟨i, hi, q⟩
        by_cases hik : i = k
        · subst hik; rw [he] at q; exact .inl (by rw [← q]; rfl)
        · exact .inr ⟨i, by omega, q⟩
      · rintro (rfl | ⟨i, hi, q⟩)
        · exact ⟨k, by omega, by rw [he]; rfl⟩
        · exact ⟨i, by omega, q⟩
    have fg2 : Fr h.size h g2 := ⟨by have := fg.size; omega, fun c hc => by rw [k2 _ (by omega), fg.blk _ hc]⟩
    have d2 : RS g2 h.size (h.size + 1) w t (ordE M (k + 1)) := ⟨hw1, ht1, hn, (k2 _ (by omega)).trans dg.ba, ⟨Bs.set e true, by simp [lB], by rw [b2, bools_set], fun f hf => by
      rw [setTrue_getD (by omega), mE]
      by_cases q : e = f
      · rw [if_pos q]; exact ⟨fun _ => .inl q, fun _ => rfl⟩
      · rw [if_neg q, iff f hf]; exact ⟨.inr, fun g => g.elim (fun g => absurd g q) id⟩⟩, by have := dg.la; omega, by omega, fun f hf => by
      rcases (mE f).1 hf with rfl | hf
      · exact hel
      · exact dg.hE f hf⟩
    have ek : IntKind.i64.wrap ((k : Int) + 1) = ((k + 1 : Nat) : Int) := by rw [w64_eq (by omega) (by omega)]; omega
    simp only [ek]
    refine rWraps_spec d2 _ fun h20 b c f20 hb hc => ?_
    have z20 := f20.size
    have fg20 : Fr h.size h h20 := ⟨by have := fg2.size; omega, fun c hc => by rw [f20.blk _ (by have := fg2.size; omega), fg2.blk _ hc]⟩
    have fin : wrapped (w * t) (eR w t (ordE M (k + 1))) → K ((k + 1 : Nat) : Int) true 0 h20 := fun q => hyes h20 fg20 w t k rfl rfl g ok hkl q nw
    refine cnd_of (fun c1 => fin ?_) fun c1 => cnd_of (fun c2 => fin ?_) fun c2 => hKr hkl _ _ ⟨rfl, fg20, d2.fr f20, fun ⟨v, hv, kk, q⟩ => ?_⟩
    · obtain ⟨v, hv, q⟩ := hb.1 c1; exact ⟨v, hv, false, q⟩
    · obtain ⟨v, hv, q⟩ := hc.1 c2; exact ⟨v, hv, true, q⟩
    · cases kk
      · rw [hb.2 ⟨v, hv, q⟩] at c1; cases c1
      · rw [hc.2 ⟨v, hv, q⟩] at c2; cases c2
  · simp only [decide_eq_false_iff_not, hsn, Int.ofNat_eq_natCast] at c
    have : k = M.length := by omega
    subst this
    exact hno g' fg w t rfl rfl g ok nw

theorem wrapped_lt {M : List Int} {w t : Nat} {i j : Nat} (h : i ≤ j) (g : wrapped (w * t) (eR w t (ordE M i))) : wrapped (w * t) (eR w t (ordE M j)) :=
  wrapped_mono (eR_mono fun e he => by
    obtain ⟨k, hk, q⟩ := ordE_mem.1 he
    exact ordE_mem.2 ⟨k, by omega, q⟩) g

theorem g_law30_WrappingFirsts_true (x y : Int) (s : Sl) (h : Hp) (K : Bool → Hp → Prop) (_ : -9223372036854775808 ≤ x ∧ x ≤ 9223372036854775807) (_ : -9223372036854775808 ≤ y ∧ y ≤ 9223372036854775807) {M : List Int} (hM : Rd h 1 s (ints M)) (hy : s.n ≤ 2 ^ 63 - 1)
    (hw : ∀ x ∈ M, -9223372036854775808 ≤ x ∧ x ≤ 9223372036854775807) (hK : ∀ h', K true h') : g_law30_WrappingFirsts x y s h K := by
  have hsn : s.n = M.length := by have := hM.ilen; omega
  unfold g_law30_WrappingFirsts
  refine jn_of (fun _ h2 => h2 = h ∧ s.n ≤ 100) ?_ fun K3 hK3 => ?_
  case refine_2 =>
    refine small30_spec x y _ _ fun b _ => cnd_of (fun _ => works_spec _ _ fun h' _ => hK h') fun _ => rSizes_spec x y _ _ fun b _ => cnd_of (fun _ => cnd_of (fun _ => works_spec _ _ fun h' _ => hK h') fun _ => cnd_of (fun _ => works_spec _ _ fun h' _ => hK h') fun c => hK3 _ _ ⟨rfl, ?_⟩) fun _ => cnd_of (fun _ => works_spec _ _ fun h' _ => hK h') fun c => hK3 _ _ ⟨rfl, ?_⟩
    all_goals simp only [decide_eq_false_iff_not, Int.ofNat_eq_natCast] at c; omega
  rintro ⟨⟩ h ⟨rfl, hlen⟩
  have fin : ∀ h7 (k : Int) b e, Fr h.size h h7 → (∀ K', (∀ h', Fr h7.size h7 h' → K' k b e h') → g_ref30_First x y s h7 K') → g_ref30_First x y s h7 fun r8 r9 r10 h11 => cnd (k == r8) (cnd (b == r9) (cnd (e == r10) (g_law30_works h11 fun r12 h13 => K r12 h13) (K false h11)) (K false h11)) (K false h11) := by
    intro h7 k b e f7 hr
    exact hr _ fun h' _ => cnd_t (by simp) (cnd_t (by simp) (cnd_t (by simp) (works_spec _ _ fun h' _ => hK h')))
  have hb : ∀ i, i < M.length → -(2 ^ 63) ≤ M.getD i 0 ∧ M.getD i 0 < 2 ^ 63 := fun i hi => by
    have := hw (M.getD i 0) (by rw [List.getD, List.getElem?_eq_getElem hi]; exact List.getElem_mem hi)
    omega
  have nat : ∀ {w t w' t' : Nat}, x = w → y = t → x = w' → y = t' → w = w' ∧ t = t' := fun h1 h2 h3 h4 => by omega
  refine First_spec x y s M h _ hM hb (by omega) (fun h7 f7 bad => fin h7 _ _ _ f7 fun K' hK' => ?_) (fun h7 f7 w t ex ey g ok hn => fin h7 _ _ _ f7 fun K' hK' => ?_) fun h7 f7 w t k ex ey g ok hk h1 h2 => fin h7 _ _ _ f7 fun K' hK' => ?_
  all_goals refine rFirst_spec x y s M h7 K' (hM.fr f7) (by omega) (fun h' f' bad' => ?_) (fun h' f' w' t' ex' ey' g' ok' hn' => ?_) fun h' f' w' t' k' ex' ey' g' ok' hk' h1' h2' => ?_
  · exact hK' _ f'
  · rcases bad with bad | ⟨w, t, ex, ey, bad⟩
    · exact absurd g' bad
    · obtain ⟨rfl, rfl⟩ := nat ex ey ex' ey'
      exact absurd ok' bad
  · rcases bad with bad | ⟨w, t, ex, ey, bad⟩
    · exact absurd g' bad
    · obtain ⟨rfl, rfl⟩ := nat ex ey ex' ey'
      exact absurd ok' bad
  · rcases bad' with bad | ⟨w', t', ex', ey', bad⟩
    · exact absurd g bad
    · obtain ⟨rfl, rfl⟩ := nat ex ey ex' ey'
      exact absurd ok bad
  · exact hK' _ f'
  · obtain ⟨rfl, rfl⟩ := nat ex ey ex' ey'
    exact absurd (wrapped_lt (by omega) h1') hn
  · rcases bad' with bad | ⟨w', t', ex', ey', bad⟩
    · exact absurd g bad
    · obtain ⟨rfl, rfl⟩ := nat ex ey ex' ey'
      exact absurd ok bad
  · obtain ⟨rfl, rfl⟩ := nat ex ey ex' ey'
    exact absurd (wrapped_lt (by omega) h1) hn'
  · obtain ⟨rfl, rfl⟩ := nat ex ey ex' ey'
    have : k = k' := by
      rcases Nat.lt_trichotomy k k' with q | q | q
      · exact absurd (wrapped_lt (by omega) h1) h2'
      · exact q
      · exact absurd (wrapped_lt (by omega) h1') h2
    subst this
    exact hK' _ f'

end Go.Hx
