/- The law about the first edge that wraps. No condition. -/
import Derived.Test.YtdponlecglgmbaaHxTorL
namespace Go.Hx
set_option linter.unusedSimpArgs false
set_option linter.unusedVariables false

/-- A part of a list. -/
theorem Lst.sub {h : Hp} {s : Sl} {M : List Nat} {B : Nat} (l : Lst h 1 s (ints (nats M)) B) {i m c : Nat} (hm : i + m ≤ M.length) :
    Rd h 1 ⟨if (Int.ofNat s.c) = (i : Int) then s.a else Option.map (fun q => q.add (Int.toNat (i : Int) * 1)) s.a, m, c⟩ (ints (nats ((M.drop i).take m))) := by
  by_cases hm0 : m = 0
  · subst hm0
    refine ⟨?_, fun a _ hp => by simp at hp⟩
    simp only [Nat.zero_mul, seg_zero, List.take_zero]; rfl
  obtain ⟨h1, h2, ⟨rfl, h3⟩ | ⟨b, sp, ha, hB, hb, hc, hs⟩⟩ := l
  · have : M = [] := by cases M with
      | nil => rfl
      | cons a M => simp [ints, nats] at h3
    subst this
    simp at hm; omega
  · rw [ints_len, nats_len] at h1
    have hne : ¬ Int.ofNat s.c = (i : Int) := by simp only [Int.ofNat_eq_natCast]; omega
    rw [if_neg hne, ha]
    simp only [Option.map_some, add_mk, Nat.zero_add, Nat.mul_one, show Int.toNat (i : Int) = i from rfl]
    refine ⟨?_, fun x hx _ => by simp only at hx; cases hx; exact hb⟩
    simp only [Nat.mul_one]
    rw [seg_row (row_own hc) (by rw [List.length_append, ints_len, nats_len]; omega)]
    congr 1
    rw [List.drop_append_of_le_length (by rw [ints_len, nats_len]; omega), List.take_append_of_le_length (by rw [List.length_drop, ints_len, nats_len]; omega)]
    simp [ints, nats, List.map_take, List.map_drop]

theorem Lst.sub_blk {s : Sl} {i m c : Nat} {x : Addr} (hx : (⟨if (Int.ofNat s.c) = (i : Int) then s.a else Option.map (fun q => q.add (Int.toNat (i : Int) * 1)) s.a, m, c⟩ : Sl).a = some x) : ∃ y, s.a = some y ∧ y.block = x.block := by
  simp only at hx
  split at hx
  · exact ⟨x, hx, rfl⟩
  · cases hq : s.a with
    | none => rw [hq] at hx; cases hx
    | some y =>
      rw [hq] at hx
      simp only [Option.map_some, Option.some.injEq] at hx
      refine ⟨y, rfl, ?_⟩
      rw [← hx]; unfold Addr.add; split <;> rfl

/-- An order that is none is refused. -/
theorem First_bad {x y : Nat} (hx : 1 ≤ x ∧ 1 ≤ y ∧ x * y ≤ 4096) (s : Sl) (M : List Int) (h : Hp) (K : Int → Bool → Int → Hp → Prop) (hr : Rd h 1 s (ints M)) (hb : ∀ i, i < M.length → -(2 ^ 63) ≤ M.getD i 0 ∧ M.getD i 0 < 2 ^ 63) (hl : M.length < 2 ^ 40) (hbad : ¬ okOrd (x * y) M)
    (hK : ∀ h', Fr h.size h h' → K 0 false 2 h') : g_wrapping_First (x : Nat) (y : Nat) s h K := by
  refine First_spec _ _ s M h K hr hb hl (fun h' f _ => hK h' f) (fun h' f w t hw ht _ ok _ => ?_) fun h' f w t k hw ht _ ok _ _ _ => ?_
  · obtain rfl : x = w := by omega
    obtain rfl : y = t := by omega
    exact absurd ok hbad
  · obtain rfl : x = w := by omega
    obtain rfl : y = t := by omega
    exact absurd ok hbad

theorem ints_nats_get (M : List Nat) (v : Int) (i : Nat) : (nats M ++ [v]).getD i 0 = if i < M.length then ((M.getD i 0 : Nat) : Int) else if i = M.length then v else 0 := by
  simp only [List.getD]
  by_cases h : i < M.length
  · rw [if_pos h, List.getElem?_append_left (by rw [nats_len]; exact h)]
    have := nats_getD M i
    simp only [List.getD] at this
    exact this
  · rw [if_neg h, List.getElem?_append_right (by rw [nats_len]; omega), nats_len]
    by_cases e : i = M.length
    · subst e; simp
    · rw [if_neg e]
      have : i - M.length ≠ 0 := by omega
      obtain ⟨k, hk⟩ : ∃ k, i - M.length = k + 1 := ⟨i - M.length - 1, by omega⟩
      rw [hk]; rfl

/-- A list begun in a row of no cells. -/
theorem Lst.zero {h : Hp} {b B : Nat} (hb : h.blk b = some (.cells [])) (hB : B ≤ b) (hs : b < h.size) : Lst h 1 ⟨some ⟨b, 0, none⟩, 0, 0⟩ [] B :=
  ⟨by simp, Nat.le_refl _, .inr ⟨b, [], rfl, hB, hs, by simpa using hb, by simp⟩⟩

/-- A list and one number more, as an order. -/
theorem more_spec {h0 h : Hp} {x : Sl} {M : List Nat} {v : Int} {B : Nat} (hB : B ≤ h.size) (hr : Rd h 1 x (ints (nats M))) (hl : M.length ≤ 300) {b : Nat} (hb : h.blk b = some (.cells [])) (hbB : B ≤ b) (hbs : b < h.size)
    (K : Sl → Hp → Prop) (hK : ∀ s' h', Lst h' 1 s' (ints (nats M ++ [v])) B → h.size ≤ h'.size → (∀ c, c < h.size → c ≠ b → h'.blk c = h.blk c) → K s' h') :
    app 1 8 [.int .i64 0] ⟨some ⟨b, 0, none⟩, 0, 0⟩ x h fun s34 h35 => alo h35 [.int .i64 v] fun a36 h37 => app 1 8 [.int .i64 0] ⟨s34.a, s34.n, s34.c⟩ ⟨(some a36), 1, 1⟩ h37 fun s38 h39 => K s38 h39 := by
  have hxn : x.n = M.length := by have := hr.ilen; rw [nats_len] at this; omega
  refine app_lst (Lst.zero hb hbB hbs) hB (news := ints (nats M)) hr.1 (ints_one _) rfl (by simp only; omega) (by simp only; omega) fun s' h' l' n' z' f' k' a' => ?_
  have n' : s'.n = M.length := by simp only at n'; omega
  rw [List.nil_append] at l'
  refine app1_spec l' (by omega) (by omega) fun s2 h2 l2 z2 k2 => hK s2 h2 l2 (by omega) fun c hc hcb => ?_
  have hnb : nb s' c := fun y hy => by
    rcases a' with a' | a'
    · rw [a'] at hy; cases hy; exact hcb
    · rw [a'] at hy; cases hy; simp only; omega
  rw [(k2 c (by omega) hnb).1, k' c hc fun y hy => by cases hy; exact hcb]

/-- One number behind a list, from a cell that is there. -/
theorem app_el {h : Hp} {s : Sl} {M : List Int} {B a : Nat} {v : Int} {K : Sl → Hp → Prop} (hl : Lst h 1 s (ints M) B) (hB : B ≤ h.size) (hn : s.n < 2 ^ 40) (ha : h.blk a = some (.cells [.int .i64 v]))
    (H : ∀ s' h', Lst h' 1 s' (ints (M ++ [v])) B → h.size ≤ h'.size → (∀ c, c < h.size → nb s c → h'.blk c = h.blk c ∧ nb s' c) → K s' h') :
    app 1 8 [.int .i64 0] ⟨s.a, s.n, s.c⟩ ⟨some ⟨a, 0, none⟩, 1, 1⟩ h K := by
  refine app_lst hl.eta hB (news := [.int .i64 v]) (by rw [seg_row (row_own ha) (by simp)]; rfl) (by simp [Value.oneCell]) rfl (by simp only; omega) (by simp only; omega) fun s' h' hl' _ hz fr ho hs => ?_
  refine H s' h' (by rw [ints_app]; exact hl') hz fun c hc hnb => ⟨ho c hc hnb, fun x hx => ?_⟩
  rcases hs with hs | hs
  · rw [hs] at hx; exact hnb x hx
  · rw [hs] at hx; cases hx; simp only; omega

theorem app_zero {h : Hp} {x : Sl} {M : List Nat} {B b : Nat} {K : Sl → Hp → Prop} (hB : B ≤ h.size) (hr : Rd h 1 x (ints (nats M))) (hl : M.length ≤ 300) (hb : h.blk b = some (.cells [])) (hbB : B ≤ b) (hbs : b < h.size)
    (H : ∀ s' h', Lst h' 1 s' (ints (nats M)) B → s'.n = M.length → h.size ≤ h'.size → (∀ c, c < h.size → c ≠ b → h'.blk c = h.blk c ∧ nb s' c) → K s' h') :
    app 1 8 [.int .i64 0] ⟨some ⟨b, 0, none⟩, 0, 0⟩ ⟨x.a, x.n, x.c⟩ h K := by
  have hxn : x.n = M.length := by have := hr.ilen; rw [nats_len] at this; omega
  refine app_lst (Lst.zero hb hbB hbs) hB (news := ints (nats M)) hr.1 (ints_one _) rfl (by simp only; omega) (by simp only; omega) fun s' h' l' n' z' f' k' a' => H s' h' (by simpa using l') (by simp only at n'; omega) z' fun c hc hcb => ⟨k' c hc fun y hy => (by cases hy; exact hcb), fun y hy => ?_⟩
  rcases a' with a' | a'
  · rw [a'] at hy; cases hy; exact hcb
  · rw [a'] at hy; cases hy; simp only; omega

theorem First_ok {x y : Nat} (hx : 1 ≤ x ∧ 1 ≤ y ∧ x * y ≤ 4096) (s : Sl) (M : List Int) (h : Hp) (K : Int → Bool → Int → Hp → Prop) (hr : Rd h 1 s (ints M)) (hb : ∀ i, i < M.length → -(2 ^ 63) ≤ M.getD i 0 ∧ M.getD i 0 < 2 ^ 63) (hl : M.length < 2 ^ 40) (ok : okOrd (x * y) M)
    (hK : ∀ h' (k : Nat) b, Fr h.size h h' → (b = true → 1 ≤ k ∧ k ≤ M.length ∧ wrapped (x * y) (eR x y (ordE M k)) ∧ ¬ wrapped (x * y) (eR x y (ordE M (k - 1)))) → (b = false → k = 0 ∧ ¬ wrapped (x * y) (eR x y (ordE M M.length))) → K (k : Nat) b 0 h') : g_wrapping_First (x : Nat) (y : Nat) s h K := by
  refine First_spec _ _ s M h K hr hb hl (fun h' f hb => ?_) (fun h' f w t hw ht _ _ hn => ?_) fun h' f w t k hw ht _ _ hk h1 h2 => ?_
  · rcases hb with hb | ⟨w, t, hw, ht, hb⟩
    · exact absurd ⟨by omega, by omega, by rw [← Int.natCast_mul]; omega⟩ hb
    · obtain rfl : x = w := by omega
      obtain rfl : y = t := by omega
      exact absurd ok hb
  · obtain rfl : x = w := by omega
    obtain rfl : y = t := by omega
    exact hK h' 0 false f (fun q => by cases q) fun _ => ⟨rfl, hn⟩
  · obtain rfl : x = w := by omega
    obtain rfl : y = t := by omega
    exact hK h' (k + 1) true f (fun _ => ⟨by omega, hk, h1, h2⟩) fun q => by cases q

theorem wraps_no {n : Nat} {R : ER} {k : Bool} {b : Bool} (h : wrB n R k b) (hn : ¬ wrapped n R) : b = false := by
  cases hb : b with
  | false => rfl
  | true =>
    obtain ⟨v, hv, q⟩ := h.1 hb
    exact absurd ⟨v, hv, k, q⟩ hn

set_option maxHeartbeats 1000000 in
theorem g_law30_WrappingFirst_true (a0 a1 : Int) (s : Sl) (a3 : Int) (h : Hp) (K : Bool → Hp → Prop) (w0 : 0 ≤ a0 ∧ a0 ≤ 255) (w1 : 0 ≤ a1 ∧ a1 ≤ 255) {M2 : List Value} (hr : Rd h 1 s M2) (hy : s.n ≤ 2 ^ 63 - 1)
    (hm : ∀ i j l, i < s.n → (List.replicate 1 (LK.int .u16))[j]? = some l → ∃ v, M2[i * 1 + j]? = some v ∧ okCell l v) (w3 : 0 ≤ a3 ∧ a3 ≤ 255) (hK : ∀ h', K true h') : g_law30_WrappingFirst a0 a1 s a3 h K := by
  obtain ⟨l, rfl, hl⟩ := kints_of (.inr rfl) hr.len hm
  obtain ⟨A, rfl⟩ : ∃ A : Nat, a0 = A := ⟨a0.toNat, by omega⟩
  obtain ⟨B, rfl⟩ : ∃ B : Nat, a1 = B := ⟨a1.toNat, by omega⟩
  obtain ⟨c0, rfl⟩ : ∃ c0 : Nat, a3 = c0 := ⟨a3.toNat, by omega⟩
  unfold g_law30_WrappingFirst
  refine sizes_spec (by omega) (by omega) _ _ ?_
  obtain ⟨w, hw⟩ : ∃ w, w = 1 + A % 12 := ⟨_, rfl⟩
  obtain ⟨t, ht⟩ : ∃ t, t = 1 + B % 12 := ⟨_, rfl⟩
  rw [← hw, ← ht]
  have hw1 : 1 ≤ w ∧ w ≤ 12 := by omega
  have ht1 : 1 ≤ t ∧ t ≤ 12 := by omega
  clear hw ht
  have hn : w * t ≤ 144 := Nat.mul_le_mul hw1.2 ht1.2
  have hn1 : 1 ≤ w * t := Nat.mul_le_mul hw1.1 ht1.1
  have hg : 1 ≤ w ∧ 1 ≤ t ∧ w * t ≤ 4096 := ⟨hw1.1, ht1.1, by omega⟩
  have e1 : IntKind.i64.wrap ((w : Int) * t) = ((w * t : Nat) : Int) := by rw [← Int.natCast_mul, w64n (by omega)]
  have e2 : IntKind.i64.wrap (IntKind.i64.wrap (2 * (w : Int)) * t) = ((2 * (w * t) : Nat) : Int) := by
    rw [show (2 * (w : Int)) = ((2 * w : Nat) : Int) by omega, w64n (by omega), ← Int.natCast_mul, w64n (by rw [Nat.mul_assoc]; omega), Nat.mul_assoc]
  simp only [w64, e1, e2]
  refine edges_spec hn1 (by omega) hl true hr (by have := hr.len; rw [kints_len] at this; omega) _ fun s1 h5 M1 l1 f5 i1 _ o1 n1 => ?_
  have z5 := f5.size
  have hM1 : ∀ e ∈ M1, e < 2 * (w * t) := fun e he => bE_lt hn1 ((i1 e).1 he)
  have hsn : s1.n = M1.length := by have := l1.1; rw [ints_len, nats_len] at this; omega
  have hsc := l1.2.1
  have ok := okOrd_nats hM1 (o1 rfl)
  have okb : ∀ i, i < (nats M1).length → -(2 ^ 63) ≤ (nats M1).getD i 0 ∧ (nats M1).getD i 0 < 2 ^ 63 := fun i hi => by have := ok.1 i hi; omega
  refine First_ok hg s1 (nats M1) _ _ l1.rd okb (by rw [nats_len]; omega) ok fun h9 k b f9 kt kf => ?_
  rw [nats_len] at kt kf
  have z9 := f9.size
  refine New_e w t hg _ _ fun h12 o d12 hlo f12 => ?_
  have q12 := d12.wt1; have z12 := f12.size
  have l12 := (l1.fr f9).fr (h' := h12) f12
  -- how many edges do not wrap
  obtain ⟨kp, hkp⟩ : ∃ kp : Nat, kp = if b then k else M1.length + 1 := ⟨_, rfl⟩
  have kp1 : 1 ≤ kp ∧ kp ≤ M1.length + 1 ∧ ¬ wrapped (w * t) (eR w t (ordE (nats M1) (kp - 1))) := by
    cases hb : b with
    | true =>
      rw [hb] at hkp
      obtain ⟨g1, g2, _, g4⟩ := kt hb
      simp only [if_true] at hkp
      subst hkp
      exact ⟨g1, by omega, g4⟩
    | false =>
      rw [hb] at hkp
      simp only [Bool.false_eq_true, if_false] at hkp
      subst hkp
      exact ⟨by omega, by omega, (kf hb).2⟩
  refine jn_of (fun _ h' => h' = h12) ?_ fun K15 hK15 => ?_
  case refine_2 =>
    refine cnd_f rfl (cnd_f rfl (cnd_f (by simp) (cnd_f ?_ ?_)))
    · simp only [decide_eq_false_iff_not, Int.ofNat_eq_natCast, hsn]
      cases hb : b with
      | true => have := (kt hb).2.1; omega
      | false => have := (kf hb).1; omega
    · cases hb : b with
      | true =>
        have := (kt hb).1
        refine cnd_f rfl (cnd_t rfl (cnd_f ?_ (hK15 _ _ rfl)))
        simp only [beq_eq_false_iff_ne]; omega
      | false =>
        have := (kf hb).1
        refine cnd_t rfl (cnd_f (by rw [this]; rfl) (cnd_f rfl (hK15 _ _ rfl)))
  rintro ⟨⟩ h12 rfl
  refine jn_of (fun s' h' => s'.1 = (kp : Int) ∧ h' = h12) ?_ fun K18 hK18 => ?_
  case refine_2 =>
    cases hb : b with
    | true => exact cnd_f rfl (hK18 _ _ ⟨by rw [hkp, hb]; simp, rfl⟩)
    | false =>
      refine cnd_t rfl (hK18 _ _ ⟨?_, rfl⟩)
      simp only [hsn, Int.ofNat_eq_natCast]
      rw [w64_eq (by omega) (by omega), hkp, hb]; simp
  rintro ⟨_, u⟩ h12 ⟨rfl, rfl⟩
  have ek : IntKind.i64.wrap ((kp : Int) - 1) = ((kp - 1 : Nat) : Int) := by rw [w64_eq (by omega) (by omega)]; omega
  simp only [ek]
  refine ⟨by omega, by omega, by simp only [Int.ofNat_eq_natCast]; omega, Int.le_refl _, ?_⟩
  have e5 : Int.toNat (((kp - 1 : Nat) : Int) - 0) = kp - 1 := by omega
  rw [e5]
  have pre := l12.pre (m := kp - 1) (c := Int.toNat ((Int.ofNat s1.c) - 0)) (by omega)
  have lblk : ∀ x, s1.a = some x → x.block < h5.size := fun x hx => (l1.blk_lt hx).2.1
  have hd1 : ∀ x, (⟨if (Int.ofNat s1.c) = 0 then s1.a else Option.map (fun q => q.add (Int.toNat 0 * 1)) s1.a, kp - 1, Int.toNat ((Int.ofNat s1.c) - 0)⟩ : Sl).a = some x → x.block < o.lo ∨ o.hi ≤ x.block := fun x hx => by
    obtain ⟨y, hy, e⟩ := Lst.sub_blk (i := 0) hx
    have := lblk y hy; omega
  have hF : ∀ e ∈ M1.take (kp - 1), e < 2 * (w * t) := fun e he => hM1 e (List.mem_of_mem_take he)
  have hFl : (M1.take (kp - 1)).length = kp - 1 := by rw [List.length_take]; omega
  refine put_spec d12 pre hF (by omega) hd1 false _ fun h20 E1 c1 d20 f20 mE1 hc1 => cnd_f (by simp) (Wraps_e d20 _ fun b0 b1 x0 x1 => ?_)
  have z20 := f20.size
  have hRE : eR w t E1 = eR w t (ordE (nats M1) (kp - 1)) := eR_congr fun e => by
    rw [mE1, ordE_take (by omega)]
    exact ⟨fun q => q.elim (fun q => by cases q) id, .inr⟩
  rw [hRE] at x0 x1
  rw [wraps_no x0 kp1.2.2, wraps_no x1 kp1.2.2]
  refine cnd_f rfl (cnd_f rfl ?_)
  have g20 : Fr o.lo h12 h20 := ⟨z20, fun c hc => f20.blk _ (by omega) (.inl hc)⟩
  refine jn_of (fun _ h' => h12.size ≤ h'.size ∧ ∀ c, c < o.lo → h'.blk c = h12.blk c) ?_ fun K26 hK26 => cnd_of (fun hb => ?_) fun _ => hK26 _ _ ⟨z20, g20.blk⟩
  case refine_2 =>
    obtain ⟨g1, g2, g3, _⟩ := kt hb
    have ekk : kp = k := by rw [hkp, hb]; simp
    subst ekk
    refine ⟨by omega, by omega, by simp only [Int.ofNat_eq_natCast]; omega, Int.le_refl _, ?_⟩
    have l20 : Lst h20 1 s1 (ints (nats M1)) h.size := l12.keep z20 fun x hx => f20.blk _ (by have := lblk x hx; omega) (.inl (by have := lblk x hx; omega))
    have e6 : Int.toNat ((kp : Int) - ((kp - 1 : Nat) : Int)) = 1 := by omega
    rw [e6]
    have sub := l20.sub (i := kp - 1) (m := 1) (c := Int.toNat ((Int.ofNat s1.c) - ((kp - 1 : Nat) : Int))) (by omega)
    refine put_spec d20 sub (fun e he => hM1 e (List.mem_of_mem_drop (List.mem_of_mem_take he))) (by rw [List.length_take, List.length_drop]; omega) (fun x hx => by
      obtain ⟨y, hy, e⟩ := Lst.sub_blk (i := kp - 1) hx
      have := lblk y hy; omega) false _ fun h95 E2 c2 d95 f95 mE2 hc2 => Wraps_e d95 _ fun b2 b3 x2 x3 => ?_
    have g95 : h12.size ≤ h95.size ∧ ∀ c, c < o.lo → h95.blk c = h12.blk c := ⟨by have := f95.size; omega, fun c hc => by rw [f95.blk _ (by omega) (.inl hc), g20.blk _ hc]⟩
    have hRE2 : eR w t E2 = eR w t (ordE (nats M1) kp) := eR_congr fun e => by
      rw [mE2, mE1, ordE_take (by omega)]
      have tk : M1.take kp = M1.take (kp - 1) ++ (M1.drop (kp - 1)).take 1 := by
        conv => lhs; rw [show kp = (kp - 1) + 1 by omega]
        rw [List.take_add]
      rw [tk, List.mem_append]
      exact ⟨fun q => q.elim (fun q => q.elim (fun q => by cases q) .inl) .inr, fun q => q.elim (fun q => .inl (.inr q)) .inr⟩
    rw [hRE2] at x2 x3
    obtain ⟨v, hv, kk, hwv⟩ := g3
    have : b2 = true ∨ b3 = true := by
      cases kk
      · exact .inl (x2.2 ⟨v, hv, hwv⟩)
      · exact .inr (x3.2 ⟨v, hv, hwv⟩)
    refine cnd_of (fun q2 => cnd_of (fun q3 => ?_) fun _ => hK26 _ _ g95) fun _ => hK26 _ _ g95
    simp only [Bool.not_eq_true'] at q2 q3
    rw [q2, q3] at this
    rcases this with this | this <;> cases this
  rintro ⟨⟩ h25 ⟨z25, k25⟩
  refine cnd_of (fun _ => works_spec _ _ fun h' _ => hK h') fun c => ?_
  simp only [beq_eq_false_iff_ne, Int.ofNat_eq_natCast, hsn] at c
  have hlen : 1 ≤ M1.length := by omega
  have l25 : Lst h25 1 s1 (ints (nats M1)) h.size := l12.keep z25 fun x hx => k25 _ (by have := lblk x hx; omega)
  have hi : c0 % M1.length < M1.length := Nat.mod_lt _ hlen
  have ei : Int.tmod (IntKind.i64.wrap (c0 : Int)) (Int.ofNat s1.n) = ((c0 % M1.length : Nat) : Int) := by
    rw [hsn, w64n (by omega), Int.ofNat_eq_natCast, Int.tmod_eq_emod_of_nonneg (by omega), ← Int.natCast_emod]
  simp only [ei]
  generalize c0 % M1.length = i at *
  refine ⟨by simp only [Int.ofNat_eq_natCast]; omega, ?_⟩
  have bnd1 : ∀ (M : List Nat) (v : Int), (∀ e ∈ M, e < 2 * (w * t)) → -1 ≤ v → v ≤ 300 → ∀ i, i < (nats M ++ [v]).length → -(2 ^ 63) ≤ (nats M ++ [v]).getD i 0 ∧ (nats M ++ [v]).getD i 0 < 2 ^ 63 := by
    intro M v hM hv1 hv2 i hi
    rw [ints_nats_get]
    split
    · rename_i q
      have := hM (M.getD i 0) (by rw [List.getD, List.getElem?_eq_getElem q]; exact List.getElem_mem q)
      omega
    · split <;> omega
  have hel : M1.getD i 0 < 2 * (w * t) := hM1 _ (by rw [List.getD, List.getElem?_eq_getElem hi]; exact List.getElem_mem hi)
  have bad1 : ¬ okOrd (w * t) (nats M1 ++ [((M1.getD i 0 : Nat) : Int)]) := fun q => by
    refine q.2 i M1.length hi (by rw [List.length_append, nats_len]; simp) ?_
    rw [ints_nats_get, ints_nats_get, if_pos hi, if_neg (by omega), if_pos rfl]
  have bad2 : ∀ (M : List Nat) (v : Int), ¬ (0 ≤ v ∧ v < 2 * ((w * t : Nat) : Int)) → ¬ okOrd (w * t) (nats M ++ [v]) := fun M v hv q => by
    have := q.1 M.length (by rw [List.length_append, nats_len]; simp)
    rw [ints_nats_get, if_neg (by omega), if_pos rfl] at this
    exact hv this
  refine jn_of (fun s' h' => s'.1 = 2 ∧ Fr h25.size h25 h') ?_ fun K31 hK31 => ?_
  case refine_2 =>
    have fin : ∀ (s2 : Sl) (H : Hp), Fr h25.size h25 H → Lst H 1 s2 (ints (nats M1 ++ [((M1.getD i 0 : Nat) : Int)])) h25.size → g_wrapping_First (w : Nat) (t : Nat) s2 H fun r68 r69 r70 h71 => K31 (r70, ()) h71 := by
      intro s2 H fH lH
      refine First_bad hg s2 _ _ _ lH.rd (bnd1 M1 _ hM1 (by omega) (by omega)) (by rw [List.length_append, nats_len]; simp; omega) bad1 fun h' f' => hK31 _ _ ⟨rfl, ⟨by have := fH.size; have := f'.size; omega, fun c hc => by have := fH.size; rw [f'.blk _ (by omega), fH.blk _ hc]⟩⟩
    obtain ⟨_, _, ⟨hnil, h3⟩ | ⟨b', sp, ha, hB', hbs', hcb, hs'⟩⟩ := id l25
    · exfalso
      have : M1.length = 0 := by
        have := congrArg List.length h3
        rw [ints_len, nats_len] at this; exact this
      omega
    have hci : ∀ g : Hp, g.blk b' = h25.blk b' → g.cell ⟨b', i, none⟩ = some (.int .i64 ((M1.getD i 0 : Nat) : Int)) := fun g hg => by
      rw [cell_own (hg.trans hcb), List.getElem?_append_left (by rw [ints_len, nats_len]; exact hi), ints_getD (by rw [nats_len]; exact hi), nats_getD]
    refine ⟨_, ha, by omega, by rw [hsn]; omega, ?_⟩
    simp only [add_mk, Nat.zero_add, Nat.add_zero, Nat.mul_one, show Int.toNat ((i : Nat) : Int) = i from rfl]
    refine ldI_of (hci h25 rfl) ⟨alo_of fun h61 z61 b61 k61 => ⟨hci h61 (k61 _ hbs'), ?_, ?_⟩, alo_of fun h83 z83 b83 k83 => alo_of fun h85 z85 b85 k85 => ?_⟩
    · refine app_zero (B := h25.size) (by omega) (l25.fr ⟨by omega, k61⟩).rd (by omega) b61 (Nat.le_refl _) (by omega) fun s62 h63 l63 n63 z63 k63 => ⟨hci h63 ((k63 _ (by omega) (by omega)).1.trans (k61 _ hbs')), ?_⟩
      refine app1_spec l63 (by omega) (by omega) fun s66 h67 l67 z67 k67 => fin s66 h67 ⟨by omega, fun c hc => ?_⟩ l67
      rw [(k67 c (by omega) (k63 c (by omega) (by omega)).2).1, (k63 c (by omega) (by omega)).1, k61 c hc]
    · refine alo_of fun h73 z73 b73 k73 => app_zero (B := h25.size) (by omega) ((l25.fr ⟨by omega, k61⟩).fr ⟨by omega, k73⟩).rd (by omega) ((k73 _ (by omega)).trans b61) (Nat.le_refl _) (by omega) fun s74 h75 l75 n75 z75 k75 => ?_
      refine app_el l75 (by omega) (by omega) ((k75 _ (by omega) (by omega)).1.trans b73) fun s76 h77 l77 z77 k77 => fin s76 h77 ⟨by omega, fun c hc => ?_⟩ l77
      rw [(k77 c (by omega) (k75 c (by omega) (by omega)).2).1, (k75 c (by omega) (by omega)).1, k73 c (by omega), k61 c hc]
    · refine app_zero (B := h25.size) (by omega) ((l25.fr ⟨by omega, k83⟩).fr ⟨by omega, k85⟩).rd (by omega) b85 (by omega) (by omega) fun s86 h87 l87 n87 z87 k87 => ?_
      refine app_el l87 (by omega) (by omega) ((k87 _ (by omega) (by omega)).1.trans ((k85 _ (by omega)).trans b83)) fun s88 h89 l89 z89 k89 => fin s88 h89 ⟨by omega, fun c hc => ?_⟩ l89
      rw [(k89 c (by omega) (k87 c (by omega) (by omega)).2).1, (k87 c (by omega) (by omega)).1, k85 c (by omega), k83 c hc]
  rintro ⟨_, u⟩ h30 ⟨rfl, f30⟩
  have z30 := f30.size
  have e7 : Int.toNat (((i : Nat) : Int) - 0) = i := by omega
  simp only [e7]
  have hti : ∀ e ∈ M1.take i, e < 2 * (w * t) := fun e he => hM1 e (List.mem_of_mem_take he)
  have htl : (M1.take i).length = i := by rw [List.length_take]; omega
  have step : ∀ (H : Hp) (v : Int) (K' : Int → Hp → Prop), h25.size ≤ H.size → (∀ c, c < h25.size → H.blk c = h25.blk c) → -1 ≤ v → v ≤ 300 → ¬ (0 ≤ v ∧ v < 2 * ((w * t : Nat) : Int)) → (∀ h', h25.size ≤ h'.size → (∀ c, c < h25.size → h'.blk c = h25.blk c) → K' 2 h') →
      alo H [] fun a32 h33 => cut 0 (i : Nat) (Int.ofNat s1.c) (Int.ofNat s1.c) <|
        app 1 8 [.int .i64 0] ⟨(some a32), 0, 0⟩ ⟨(if (Int.ofNat s1.c) = 0 then s1.a else Option.map (fun q => q.add (Int.toNat 0 * 1)) s1.a), i, (Int.toNat ((Int.ofNat s1.c) - 0))⟩ h33 fun s34 h35 =>
        alo h35 [.int .i64 v] fun a36 h37 =>
        app 1 8 [.int .i64 0] ⟨s34.a, s34.n, s34.c⟩ ⟨(some a36), 1, 1⟩ h37 fun s38 h39 =>
        g_wrapping_First (w : Nat) (t : Nat) s38 h39 fun r40 r41 r42 h43 => K' r42 h43 := by
    intro H v K' zH kH v1 v2 hv hK'
    refine alo_of fun h33 z33 b33 k33 => ⟨by omega, by omega, by simp only [Int.ofNat_eq_natCast]; omega, Int.le_refl _, ?_⟩
    have l33 : Lst h33 1 s1 (ints (nats M1)) h.size := l25.keep (by omega) fun x hx => by have := lblk x hx; rw [k33 _ (by omega), kH _ (by omega)]
    refine app_zero (B := H.size) (by omega) (l33.pre (m := i) (c := Int.toNat ((Int.ofNat s1.c) - 0)) (by omega)) (by omega) b33 (Nat.le_refl _) (by omega) fun s34 h35 l35 n35 z35 k35 => ?_
    refine app1_spec l35 (by omega) (by omega) fun s38 h39 l39 z39 k39 => ?_
    refine First_bad hg s38 _ _ _ l39.rd (bnd1 _ v hti v1 v2) (by rw [List.length_append, nats_len, htl]; simp; omega) (bad2 _ v hv) fun h' f' => hK' h' (by have := f'.size; omega) fun c hc => ?_
    rw [f'.blk _ (by omega), (k39 c (by omega) (k35 c (by omega) (by omega)).2).1, (k35 c (by omega) (by omega)).1, k33 c (by omega), kH c hc]
  refine step h30 _ _ z30 f30.blk (by omega) (by omega) (by omega) fun h43 z43 k43 => ?_
  refine step h43 (-1) _ z43 k43 (by omega) (by omega) (by omega) fun h55 z55 k55 => ?_
  exact cnd_t rfl (cnd_t rfl (cnd_t rfl (works_spec _ _ fun h' _ => hK h')))

end Go.Hx
