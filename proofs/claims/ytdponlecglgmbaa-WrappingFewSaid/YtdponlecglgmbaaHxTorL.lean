/- The laws about few edges and all of them, and about the first edge that wraps. No condition. -/
import Derived.Test.YtdponlecglgmbaaHxTorK
namespace Go.Hx
set_option linter.unusedSimpArgs false
set_option linter.unusedVariables false

theorem g_law30_WrappingFew_true (a0 a1 : Int) (s : Sl) (h : Hp) (K : Bool → Hp → Prop) (w0 : 0 ≤ a0 ∧ a0 ≤ 255) (w1 : 0 ≤ a1 ∧ a1 ≤ 255) {M2 : List Value} (hr : Rd h 1 s M2) (hy : s.n ≤ 2 ^ 63 - 1)
    (hm : ∀ i j l, i < s.n → (List.replicate 1 (LK.int .u16))[j]? = some l → ∃ v, M2[i * 1 + j]? = some v ∧ okCell l v) (hK : ∀ h', K true h') : g_law30_WrappingFew a0 a1 s h K := by
  obtain ⟨l, rfl, hl⟩ := kints_of (.inr rfl) hr.len hm
  obtain ⟨A, rfl⟩ : ∃ A : Nat, a0 = A := ⟨a0.toNat, by omega⟩
  obtain ⟨B, rfl⟩ : ∃ B : Nat, a1 = B := ⟨a1.toNat, by omega⟩
  unfold g_law30_WrappingFew
  refine sizes_spec (by omega) (by omega) _ _ ?_
  obtain ⟨w, hw⟩ : ∃ w, w = 1 + A % 12 := ⟨_, rfl⟩
  obtain ⟨t, ht⟩ : ∃ t, t = 1 + B % 12 := ⟨_, rfl⟩
  rw [← hw, ← ht]
  have hw1 : 1 ≤ w ∧ w ≤ 12 := by omega
  have ht1 : 1 ≤ t ∧ t ≤ 12 := by omega
  clear hw ht
  have hn : w * t ≤ 144 := Nat.mul_le_mul hw1.2 ht1.2
  have hn1 : 1 ≤ w * t := Nat.mul_le_mul hw1.1 ht1.1
  have e1 : IntKind.i64.wrap ((w : Int) * t) = ((w * t : Nat) : Int) := by rw [← Int.natCast_mul, w64n (by omega)]
  have e2 : IntKind.i64.wrap (IntKind.i64.wrap (2 * (w : Int)) * t) = ((2 * (w * t) : Nat) : Int) := by
    rw [show (2 * (w : Int)) = ((2 * w : Nat) : Int) by omega, w64n (by omega), ← Int.natCast_mul, w64n (by rw [Nat.mul_assoc]; omega), Nat.mul_assoc]
  obtain ⟨m0, hm0⟩ : ∃ m0 : Nat, m0 = (if t < w then t else w) - 1 := ⟨_, rfl⟩
  have e3 : IntKind.i64.wrap ((if ((t : Nat) : Int) < ((w : Nat) : Int) then ((t : Nat) : Int) else ((w : Nat) : Int)) - 1) = (m0 : Int) := by
    rw [w64_eq (by split <;> omega) (by split <;> omega), hm0]; split <;> split <;> omega
  have hm1 : m0 < w ∧ m0 < t := by rw [hm0]; split <;> omega
  simp only [w64, e1, e2, e3]
  refine New_e w t ⟨hw1.1, ht1.1, by omega⟩ _ _ fun h6 o d6 hlo f6 => New_e w t ⟨hw1.1, ht1.1, by omega⟩ _ _ fun h9 o' d9 hlo' f9 => cnd_f rfl (cnd_f rfl ?_)
  have q6 := d6.wt1; have q9 := d9.wt1
  have z6 := f6.size; have z9 := f9.size
  have d69 := d6.fr f9
  refine edges_spec hn1 (by omega) hl true ((hr.fr f6).fr ⟨f9.size, f9.blk⟩) (by have := hr.len; rw [kints_len] at this; omega) _ fun s1 h11 M1 l1 f11 i1 _ o1 n1 => ?_
  have z11 := f11.size
  have hM1 : ∀ e ∈ M1, e < 2 * (w * t) := fun e he => bE_lt hn1 ((i1 e).1 he)
  have hsn : s1.n = M1.length := by have := l1.1; rw [ints_len, nats_len] at this; omega
  have hsc := l1.2.1
  obtain ⟨m, hm⟩ : ∃ m : Nat, m = if m0 < M1.length then m0 else M1.length := ⟨_, rfl⟩
  have e4 : (if ((m0 : Nat) : Int) < Int.ofNat s1.n then ((m0 : Nat) : Int) else Int.ofNat s1.n) = (m : Int) := by
    rw [hm, hsn]; simp only [Int.ofNat_eq_natCast]; split <;> split <;> omega
  have hml : m ≤ M1.length ∧ m ≤ m0 := by rw [hm]; split <;> omega
  rw [e4]
  have e5 : Int.toNat ((m : Int) - 0) = m := by omega
  rw [e5]
  refine ⟨by omega, by omega, by simp only [Int.ofNat_eq_natCast]; omega, Int.le_refl _, ?_⟩
  have few := l1.pre (m := m) (c := Int.toNat ((Int.ofNat s1.c) - 0)) hml.1
  generalize hfs : (⟨if (Int.ofNat s1.c) = 0 then s1.a else Option.map (fun q => q.add (Int.toNat 0 * 1)) s1.a, m, Int.toNat ((Int.ofNat s1.c) - 0)⟩ : Sl) = fs at *
  have hfa : ∀ x, fs.a = some x → h9.size ≤ x.block := fun x hx => by
    rw [← hfs] at hx
    simp only at hx
    split at hx
    · have := (l1.blk_lt hx).1; omega
    · cases hq : s1.a with
      | none => rw [hq] at hx; cases hx
      | some y =>
        rw [hq] at hx
        have := (l1.blk_lt hq).1
        simp [Addr.add] at hx; rw [← hx]; omega
  refine jn_of (fun s' g => Fr h11.size h11 g ∧ Lst g 1 s'.1 (ints (nats (List.range (2 * (w * t))))) h11.size) ?_ fun K14 hK14 => ?_
  case refine_2 =>
    refine for_of (2 * (w * t)) (fun k (s' : Sl × Int × Unit) g => s'.2.1 = (k : Int) ∧ Fr h11.size h11 g ∧ Lst g 1 s'.1 (ints (nats (List.range k))) h11.size) ?_ ⟨rfl, Fr.refl _ _, Lst.nil _ _ _⟩
    rintro k Kr ⟨s2, _, u⟩ g hk ⟨rfl, fg, lg⟩ hKr
    refine cnd_of (fun c => ?_) fun c => ?_
    · simp only [decide_eq_true_eq] at c
      have hkl : k < 2 * (w * t) := by omega
      have hsk : s2.n = k := by have : s2.n * 1 = _ := lg.1; rw [ints_len, nats_len, List.length_range] at this; omega
      refine app1_spec lg (by have := fg.size; omega) (by show s2.n < 2 ^ 40; omega) fun s3 h3 l3 z3 k3 => hKr hkl _ _ ⟨?_, ⟨by have := fg.size; omega, fun c hc => ?_⟩, ?_⟩
      · simp only; rw [w64_eq (by omega) (by omega)]; omega
      · rw [(k3 c (by have := fg.size; omega) (fun x hx => by have := (lg.blk_lt hx).1; omega)).1, fg.blk _ hc]
      · rw [List.range_succ, nats_app]; exact l3
    · simp only [decide_eq_false_iff_not] at c
      have : k = 2 * (w * t) := by omega
      subst this
      exact hK14 _ _ ⟨fg, lg.eta⟩
  rintro ⟨s2, u⟩ h13 ⟨f13, l2⟩
  have z13 := f13.size
  have hF : ∀ e ∈ M1.take m, e < 2 * (w * t) := fun e he => hM1 e (List.mem_of_mem_take he)
  have hFl : (M1.take m).length = m := by rw [List.length_take]; omega
  refine put_spec ((d69.fr f11).fr f13) (few.fr f13) hF (by omega) (fun x hx => by have := hfa x hx; omega) false _ fun h16 E1 c1 d16 f16 mE1 hc1 => cnd_f (by simp) ?_
  have z16 := f16.size
  have l2' : Rd h16 1 ⟨s2.a, s2.n, s2.c⟩ (ints (nats (List.range (2 * (w * t))))) := by
    refine (l2.keep f16.size fun x hx => f16.blk _ (l2.blk_lt hx).2.1 (.inr (by have := (l2.blk_lt hx).1; omega))).rd
  refine put_spec (((d9.fr f11).fr f13).other f16 (.inr (by omega))) l2' (fun e he => List.mem_range.1 he) (by rw [List.length_range]; omega) (fun x hx => by have := (l2.blk_lt hx).1; omega) false _ fun h18 E2 c2 d18 f18 mE2 hc2 => ?_
  have z18 := f18.size
  have g18 : TS h18 o w t (eR w t E1) := d16.other f18 (.inl (by omega))
  have full : ∀ e, e < 2 * (w * t) → e ∈ E2 := fun e he => (mE2 e).2 (.inr (List.mem_range.2 he))
  have one := full_one full hw1.1 ht1.1
  rw [compN_nil] at hc1 hc2
  have hE1 : ∀ e, e ∈ E1 → e ∈ M1.take m := fun e he => ((mE1 e).1 he).elim (fun q => by cases q) id
  refine cnd_f ?_ (Wraps_e g18 _ fun b0 b1 w0 w1 => Wraps_e d18 _ fun b2 b3 w2 w3 => ?_)
  · rw [bne_eq_false_iff_eq, w64_eq (by omega) (by omega)]; omega
  have w0 : b0 = true ↔ _ := w0
  have w1 : b1 = true ↔ _ := w1
  have w2 : b2 = true ↔ _ := w2
  have w3 : b3 = true ↔ _ := w3
  have nx : ¬ b0 = true := fun q => by
    obtain ⟨v, _, hv⟩ := w0.1 q
    exact few_x hw1.1 hE1 (by omega) v hv
  have ny : ¬ b1 = true := fun q => by
    obtain ⟨v, _, hv⟩ := w1.1 q
    exact few_y hw1.1 ht1.1 (fun e he => hF e (hE1 e he)) hE1 (by omega) v hv
  have y2 : b2 = true := w2.2 ⟨0, by omega, full_wx full hw1.1 ht1.1⟩
  have y3 : b3 = true := w3.2 ⟨0, by omega, full_wy full hw1.1 ht1.1⟩
  have few18 : Rd h18 1 fs (ints (nats (M1.take m))) := by
    have r13 := few.fr f13
    refine ⟨?_, fun a ha hp => by have := r13.2 a ha hp; omega⟩
    by_cases hz : fs.n * 1 = 0
    · rw [hz, seg_zero, ← seg_zero h13 fs.a, ← hz]; exact r13.1
    · rw [seg_blk (h := h13) (h' := h18) fun a ha => by rw [f18.blk _ (by have := r13.2 a ha (by omega); omega) (.inr (by have := hfa a ha; omega)), f16.blk _ (r13.2 a ha (by omega)) (.inr (by have := hfa a ha; omega))]]; exact r13.1
  have ok := okOrd_nats hF (o1 rfl |>.sublist (List.take_sublist _ _))
  have nwr : ∀ k, k ≤ (M1.take m).length → ¬ wrapped (w * t) (eR w t (ordE (nats (M1.take m)) k)) := by
    rintro k hk ⟨v, _, kk, hv⟩
    have hmem : ∀ e, e ∈ ordE (nats (M1.take m)) k → e ∈ M1.take m := fun e he => by
      rw [ordE_take hk] at he
      exact List.mem_of_mem_take he
    cases kk
    · exact few_x hw1.1 hmem (by omega) v hv
    · exact few_y hw1.1 ht1.1 (fun e he => hF e (hmem e he)) hmem (by omega) v hv
  refine First_spec _ _ fs (nats (M1.take m)) _ _ few18 (fun i hi => ?_) (by rw [nats_len]; omega) (fun h' _ hb => ?_) (fun h28 f28 w' t' hx hy _ _ _ => ?_) fun h' _ w' t' k hx hy _ _ hkl hwr _ => ?_
  · have := ok.1 i hi; omega
  · rcases hb with hb | ⟨w', t', hx, hy, hb⟩
    · exact absurd ⟨by omega, by omega, by rw [← Int.natCast_mul]; omega⟩ hb
    · obtain rfl : w = w' := by omega
      obtain rfl : t = t' := by omega
      exact absurd ok hb
  · simp only [Bool.not_eq_true] at nx ny
    rw [nx, ny, y2, y3]
    refine cnd_t rfl (cnd_t rfl (cnd_t rfl (cnd_t rfl (cnd_t rfl (cnd_t rfl (Count_e (d18.fr f28) _ (cnd_t ?_ (works_spec _ _ fun h' _ => hK h'))))))))
    rw [one]; rfl
  · obtain rfl : w = w' := by omega
    obtain rfl : t = t' := by omega
    exact absurd hwr (nwr _ (by rw [nats_len] at hkl; omega))

end Go.Hx
