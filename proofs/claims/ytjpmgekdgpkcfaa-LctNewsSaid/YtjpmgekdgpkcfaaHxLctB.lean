/- Link-cut forests over the abstract heap: push, pull, rotate. No condition. -/
import Derived.Test.YtjpmgekdgpkcfaaHxLctA
namespace Go.Hx
set_option linter.unusedSimpArgs false
set_option linter.unusedVariables false

section
variable {h : Hp} {a b n : Nat} {N : NN} {tr : Int}

theorem FrB.of {h' h'' : Hp} (x : FrB a b h h') (z : h''.size = h'.size) (k : ∀ c, c ≠ b → h''.blk c = h'.blk c) : FrB a b h h'' := x.trans ⟨by omega, fun c _ _ hc => k c hc⟩

/-- A reversal. -/
def tog (N : NN) (x : Int) : NN := fun u => if (u : Int) = x then { N u with rev := !(N u).rev } else N u

theorem push_spec (d : FS h a b n N tr) {v : Nat} (hv : v < n) (hk0 : inI n (N v).k0) (hk1 : inI n (N v).k1) (hd : (N v).k0 = (N v).k1 → (N v).k0 = -1) (n0 : (N v).k0 ≠ v) (n1 : (N v).k1 ≠ v) (K : Hp → Prop)
    (hK : ∀ h', FS h' a b n (pushN N v) tr → FrB a b h h' → h'.size = h.size → K h') : g_lct_Forest_push (some ⟨a, 0, none⟩) (v : Int) h K := by
  unfold g_lct_Forest_push
  refine d.nd hv (K := fun a3 => nn (some (a3.add (Int.toNat (v : Int) * 9))) fun a4 => ldB h (a4.add 3) _) (nn_of ?_)
  simp only [add_mk, Nat.zero_add, Int.toNat_natCast]
  refine ldB_of (by rw [d.cell hv 3 (by omega) (by omega)]; rfl) (cnd_of (fun c => ?_) fun c => nn_of ?_)
  · have e : pushN N v = N := by funext u; unfold pushN; simp only [Bool.not_eq_true'] at c; simp [c]
    exact hK h (by rw [e]; exact d) (FrB.refl _ _ _) rfl
  have hr : (N v).rev = true := by simpa using c
  simp only [add_mk, Nat.add_zero]
  refine d.st hv 3 (by omega) (by omega) (fun u => if u = v then { N v with rev := false } else N u) (fun u hu => if_neg hu) (by rw [if_pos rfl]; rfl) fun h7 d7 f7 z7 => nn_of ⟨by omega, by omega, ?_⟩
  simp only [add_mk]
  refine ldI_of (by rw [d7.cell hv 2 (by omega) (by omega), if_pos rfl]; rfl) (nn_of ⟨by omega, by omega, ?_⟩)
  simp only [add_mk]
  refine ldI_of (by rw [d7.cell hv 1 (by omega) (by omega), if_pos rfl]; rfl) (nn_of ⟨by omega, by omega, nn_of ?_⟩)
  simp only [add_mk, Nat.add_zero]
  refine d7.st hv 1 (by omega) (by omega) (fun u => if u = v then { N v with rev := false, k0 := (N v).k1 } else N u) (fun u hu => by simp only [if_neg hu]) (by simp only [if_pos]; rfl) fun h14 d14 f14 z14 => ⟨by omega, by omega, ?_⟩
  refine d14.st hv 2 (by omega) (by omega) (fun u => if u = v then { N v with rev := false, k0 := (N v).k1, k1 := (N v).k0 } else N u) (fun u hu => by simp only [if_neg hu]) (by simp only [if_pos]; rfl) fun h15 d15 f15 z15 => nn_of ?_
  simp only [add_mk, Nat.add_zero]
  refine ldI_of (by rw [d15.cell hv 1 (by omega) (by omega), if_pos rfl]; rfl) (ldI_of (by rw [d15.cell hv 2 (by omega) (by omega), if_pos rfl]; rfl) ?_)
  have F15 : FrB a b h h15 := (f7.trans f14).trans f15
  obtain ⟨N3, h3⟩ : ∃ N3 : NN, N3 = fun u => if u = v then { N v with rev := false, k0 := (N v).k1, k1 := (N v).k0 } else N u := ⟨_, rfl⟩
  rw [← h3] at d15
  have fin : tog (tog N3 (N v).k1) (N v).k0 = pushN N v := by
    funext u
    unfold tog pushN
    simp only [hr, if_true]
    by_cases e : u = v
    · subst e
      rw [if_neg (fun q => n0 q.symm), if_neg (fun q => n1 q.symm), if_pos rfl, h3]; simp only [if_true]
    · have e3 : N3 u = N u := by rw [h3]; simp only [if_neg e]
      rw [if_neg e]
      by_cases q0 : (u : Int) = (N v).k0
      · have q1 : ¬ (u : Int) = (N v).k1 := fun q => by have := hd (q0.symm.trans q); omega
        rw [if_pos q0, if_neg q1, if_pos (.inl q0), e3]
      · by_cases q1 : (u : Int) = (N v).k1
        · rw [if_neg q0, if_pos q1, if_pos (.inr q1), e3]
        · rw [if_neg q0, if_neg q1, if_neg (fun q => q.elim q0 q1), e3]
  have togn : ∀ N' : NN, tog N' (-1) = N' := fun N' => by funext u; unfold tog; rw [if_neg (by omega)]
  refine for_of 2 (fun i (st : Int × Unit) g => st.1 = (i : Int) ∧ FrB a b h g ∧ g.size = h.size ∧ FS g a b n (if i = 0 then N3 else if i = 1 then tog N3 (N v).k1 else tog (tog N3 (N v).k1) (N v).k0) tr) ?_ ⟨rfl, F15, by omega, d15⟩
  rintro i Kr ⟨st, u⟩ g hi ⟨rfl, fg, zg, dg⟩ hKr
  refine cnd_of (fun cc => ?_) fun cc => ?_
  · simp only [decide_eq_true_eq] at cc
    have hi2 : i < 2 := by omega
    have ei : w64 ((i : Int) + 1) = ((i + 1 : Nat) : Int) := by rw [w64, w64_eq (by omega) (by omega)]; omega
    simp only [ei]
    have step : ∀ (x : Int) (N' : NN), inI n x → FS g a b n N' tr → (∀ g', FS g' a b n (tog N' x) tr → FrB a b h g' → g'.size = h.size → Kr (((i + 1 : Nat) : Int), ()) g') →
        cnd (x != (-1)) (nn (some ⟨a, 0, none⟩) fun a25 => ldS g (a25.add 1) fun s26 => nn (some ⟨a, 0, none⟩) fun a27 => ldS g (a27.add 1) fun s28 => ix s28.a s28.n x fun a29 => ldB g ((a29.add (Int.toNat x * 9)).add 3) fun b30 =>
          ix s26.a s26.n x fun a31 => stc g (((a31.add (Int.toNat x * 9)).add 3).add 0) (.bool (!b30)) fun h32 => Kr (((i + 1 : Nat) : Int), ()) h32) (Kr (((i + 1 : Nat) : Int), ()) g) := by
      intro x N' hx dN hk
      refine cnd_of (fun c1 => ?_) fun c1 => ?_
      · rcases hx with rfl | ⟨k, rfl, hkn⟩
        · simp at c1
        refine dN.sl (K := fun s26 => nn (some ⟨a, 0, none⟩) fun a27 => ldS g (a27.add 1) fun s28 => ix s28.a s28.n (k : Int) fun a29 => ldB g ((a29.add (Int.toNat (k : Int) * 9)).add 3) fun b30 =>
          ix s26.a s26.n (k : Int) fun a31 => stc g (((a31.add (Int.toNat (k : Int) * 9)).add 3).add 0) (.bool (!b30)) fun h32 => Kr (((i + 1 : Nat) : Int), ()) h32) fun _ => ?_
        refine dN.nd hkn (K := fun a29 => ldB g ((a29.add (Int.toNat (k : Int) * 9)).add 3) fun b30 =>
          ix (some ⟨b, 0, none⟩) n (k : Int) fun a31 => stc g (((a31.add (Int.toNat (k : Int) * 9)).add 3).add 0) (.bool (!b30)) fun h32 => Kr (((i + 1 : Nat) : Int), ()) h32) ?_
        simp only [add_mk, Nat.zero_add, Int.toNat_natCast, Nat.add_zero]
        refine ldB_of (by rw [dN.cell hkn 3 (by omega) (by omega)]; rfl) (ix_of (by omega) (by omega) ?_)
        simp only [add_mk, Nat.zero_add, Int.toNat_natCast, Nat.add_zero]
        refine dN.st hkn 3 (by omega) (by omega) (tog N' (k : Int)) (fun u hu => by unfold tog; rw [if_neg (by omega)]) (by unfold tog; rw [if_pos rfl]; rfl) fun g' d' f' z' => hk g' d' (fg.trans f') (by omega)
      · simp only [bne_eq_false_iff_eq] at c1
        subst c1
        exact hk g (by rw [togn]; exact dN) fg zg
    refine jn_of (fun s g' => g' = g ∧ s.1 = if i = 0 then (N v).k1 else (N v).k0) ?_ fun K24 hK24 => ⟨by omega, by omega, fun e => hK24 _ _ ⟨rfl, ?_⟩, fun e => hK24 _ _ ⟨rfl, ?_⟩, trivial⟩
    · rintro ⟨x, u⟩ g' ⟨rfl, hx⟩
      simp only at hx
      subst hx
      have : i = 0 ∨ i = 1 := by omega
      rcases this with rfl | rfl
      · exact step (N v).k1 N3 hk1 dg fun g'' d'' f'' z'' => hKr hi2 _ _ ⟨rfl, f'', z'', d''⟩
      · exact step (N v).k0 (tog N3 (N v).k1) hk0 dg fun g'' d'' f'' z'' => hKr hi2 _ _ ⟨rfl, f'', z'', d''⟩
    · rw [if_pos (by omega)]
    · rw [if_neg (by omega)]
  · simp only [decide_eq_false_iff_not] at cc
    obtain rfl : i = 2 := by omega
    refine hK g ?_ fg zg
    rw [← fin]; exact dg

/-- A node with another summary. -/
def sumN (N : NN) (v : Nat) (s : Int × Int × Int) : NN := fun u => if u = v then { N v with best := s.1, size := s.2.1, all := s.2.2 } else N u
theorem sumN_out {N : NN} {v u : Nat} {s : Int × Int × Int} (h : u ≠ v) : sumN N v s u = N u := if_neg h
theorem sumN_at (N : NN) (v : Nat) (s : Int × Int × Int) : sumN N v s v = { N v with best := s.1, size := s.2.1, all := s.2.2 } := if_pos rfl

theorem pull_spec (d : FS h a b n N tr) {v : Nat} (hv : v < n) (po : PO n N v) (K : Hp → Prop) (hK : ∀ h', FS h' a b n (pullN N v) tr → FrB a b h h' → h'.size = h.size → K h') : g_lct_Forest_pull (some ⟨a, 0, none⟩) (v : Int) h K := by
  unfold g_lct_Forest_pull
  refine d.nd hv (K := fun a3 => nn (some (a3.add (Int.toNat (v : Int) * 9))) fun a4 => ldI .i64 h (a4.add 7) _) (nn_of ?_)
  simp only [add_mk, Nat.zero_add, Int.toNat_natCast]
  refine ldI_of (by rw [d.cell hv 7 (by omega) (by omega)]; rfl) (nn_of ?_)
  simp only [add_mk, Nat.add_zero]
  refine d.st hv 5 (by omega) (by omega) (sumN N v ((v : Int), (N v).size, (N v).all)) (fun u hu => sumN_out hu) (by rw [sumN_at]; rfl) fun h7 d7 f7 z7 => nn_of ?_
  simp only [add_mk, Nat.add_zero]
  refine d7.st hv 6 (by omega) (by omega) (sumN N v ((v : Int), 1, (N v).all)) (fun u hu => by rw [sumN_out hu, sumN_out hu]) (by rw [sumN_at, sumN_at]; rfl) fun h9 d9 f9 z9 => nn_of ?_
  simp only [add_mk, Nat.add_zero]
  refine d9.st hv 8 (by omega) (by omega) (sumN N v ((v : Int), 1, w64 (1 + (N v).hang))) (fun u hu => by rw [sumN_out hu, sumN_out hu]) (by rw [sumN_at, sumN_at]; rfl) fun h11 d11 f11 z11 => nn_of ?_
  simp only [add_mk, Nat.add_zero]
  refine ldI_of (by rw [d11.cell hv 1 (by omega) (by omega), sumN_at]; rfl) (ldI_of (by rw [d11.cell hv 2 (by omega) (by omega), sumN_at]; rfl) ?_)
  obtain ⟨s0, hs0⟩ : ∃ s0 : Int × Int × Int, s0 = ((v : Int), 1, w64 (1 + (N v).hang)) := ⟨_, rfl⟩
  rw [← hs0] at d11
  have F11 : FrB a b h h11 := (f7.trans f9).trans f11
  have okk : ∀ x, x = (N v).k0 ∨ x = (N v).k1 → ∀ s : Int × Int × Int, (∃ m : Nat, s.1 = m ∧ m < n) → ∃ m : Nat, (pl N s x).1 = m ∧ m < n := fun x hx s hs => by
    unfold pl
    rcases po x hx with rfl | ⟨k, rfl, hk, _, m, hm, hmn⟩
    · rw [if_pos rfl]; exact hs
    · rw [if_neg (by omega)]
      simp only [Int.toNat_natCast]
      split
      · exact ⟨m, hm, hmn⟩
      · exact hs
  have ok0 : ∃ m : Nat, s0.1 = m ∧ m < n := ⟨v, by rw [hs0], hv⟩
  have ok1 := okk _ (.inl rfl) s0 ok0
  refine for_of 2 (fun i (st : Int × Unit) g => st.1 = (i : Int) ∧ FrB a b h g ∧ g.size = h.size ∧ FS g a b n (sumN N v (if i = 0 then s0 else if i = 1 then pl N s0 (N v).k0 else pl N (pl N s0 (N v).k0) (N v).k1)) tr) ?_ ⟨rfl, F11, by omega, d11⟩
  rintro i Kr ⟨st, u⟩ g hi ⟨rfl, fg, zg, dg⟩ hKr
  refine cnd_of (fun cc => ?_) fun cc => ?_
  · simp only [decide_eq_true_eq] at cc
    have hi2 : i < 2 := by omega
    have ei : w64 ((i : Int) + 1) = ((i + 1 : Nat) : Int) := by rw [w64, w64_eq (by omega) (by omega)]; omega
    simp only [ei]
    refine jn_of (fun s' g' => g' = g ∧ s'.1 = if i = 0 then (N v).k0 else (N v).k1) ?_ fun K24 hK24 => ⟨by omega, by omega, fun e => hK24 _ _ ⟨rfl, ?_⟩, fun e => hK24 _ _ ⟨rfl, ?_⟩, trivial⟩
    rotate_left
    · rw [if_pos (by omega)]
    · rw [if_neg (by omega)]
    rintro ⟨x, u⟩ g' ⟨rfl, hx⟩
    simp only at hx
    -- one child
    have step : ∀ (s : Int × Int × Int), (x = (N v).k0 ∨ x = (N v).k1) → (∃ m : Nat, s.1 = m ∧ m < n) → FS g' a b n (sumN N v s) tr → (∀ g'', FS g'' a b n (sumN N v (pl N s x)) tr → FrB a b h g'' → g''.size = h.size → Kr (((i + 1 : Nat) : Int), ()) g'') →
        cnd (x == (-1)) (Kr (((i + 1 : Nat) : Int), ()) g') (jn (fun (t21 : Unit) (h22 : Hp) =>
            nn (some ⟨b, v * 9, none⟩) fun a24 =>
            ldI .i64 h22 (a24.add 6) fun n25 =>
            nn (some ⟨a, 0, none⟩) fun a26 =>
            ldS h22 (a26.add 1) fun s27 =>
            ix s27.a s27.n x fun a28 =>
            ldI .i64 h22 ((a28.add (Int.toNat x * 9)).add 6) fun n29 =>
            nn (some ⟨b, v * 9, none⟩) fun a30 =>
            stc h22 ((a30.add 6).add 0) (.int .i64 (w64 (n25 + n29))) fun h31 =>
            nn (some ⟨b, v * 9, none⟩) fun a32 =>
            ldI .i64 h31 (a32.add 8) fun n33 =>
            nn (some ⟨a, 0, none⟩) fun a34 =>
            ldS h31 (a34.add 1) fun s35 =>
            ix s35.a s35.n x fun a36 =>
            ldI .i64 h31 ((a36.add (Int.toNat x * 9)).add 8) fun n37 =>
            nn (some ⟨b, v * 9, none⟩) fun a38 =>
            stc h31 ((a38.add 8).add 0) (.int .i64 (w64 (n33 + n37))) fun h39 =>
            Kr (((i + 1 : Nat) : Int), ()) h39)
          (fun K23 =>
            nn (some ⟨a, 0, none⟩) fun a40 =>
            ldS g' (a40.add 1) fun s41 =>
            ix s41.a s41.n x fun a42 =>
            ldI .i64 g' ((a42.add (Int.toNat x * 9)).add 5) fun n43 =>
            nn (some ⟨b, v * 9, none⟩) fun a44 =>
            ldI .i64 g' (a44.add 5) fun n45 =>
            g_lct_Forest_before (some ⟨a, 0, none⟩) n43 n45 g' fun r46 h47 =>
            cnd r46
            (nn (some ⟨a, 0, none⟩) fun a48 =>
              ldS h47 (a48.add 1) fun s49 =>
              ix s49.a s49.n x fun a50 =>
              ldI .i64 h47 ((a50.add (Int.toNat x * 9)).add 5) fun n51 =>
              nn (some ⟨b, v * 9, none⟩) fun a52 =>
              stc h47 ((a52.add 5).add 0) (.int .i64 n51) fun h53 =>
              K23 (()) h53)
            (K23 (()) h47))) := by
      intro s hxk ⟨ms, hms, msn⟩ ds hk
      rcases po x hxk with rfl | ⟨k, rfl, hkn, hkv, m, hm, hmn⟩
      · exact cnd_t rfl (hk _ ds fg zg)
      refine cnd_f (by simp) ?_
      have lk : ∀ {g : Hp} {s : Int × Int × Int} (_ : FS g a b n (sumN N v s) tr) {K : Addr → Prop}, K ⟨b, 0, none⟩ → nn (some ⟨a, 0, none⟩) fun a48 => ldS g (a48.add 1) fun s49 => ix s49.a s49.n (k : Int) fun a50 => K a50 := fun {g s} dd {K} hk => dd.nd hkn hk
      refine jn_of (fun _ h22 => FrB a b h h22 ∧ h22.size = h.size ∧ FS h22 a b n (sumN N v ((pl N s (k : Int)).1, s.2.1, s.2.2)) tr) ?_ fun K23 hK23 => ?_
      · rintro ⟨⟩ h22 ⟨f22, z22, d22⟩
        refine nn_of ?_
        simp only [add_mk]
        refine ldI_of (by rw [d22.cell hv 6 (by omega) (by omega), sumN_at]; rfl) (lk d22 (K := fun a28 => ldI .i64 h22 ((a28.add (Int.toNat (k : Int) * 9)).add 6) _) ?_)
        simp only [add_mk, Nat.zero_add, Int.toNat_natCast]
        refine ldI_of (by rw [d22.cell hkn 6 (by omega) (by omega), sumN_out hkv]; rfl) (nn_of ?_)
        simp only [add_mk, Nat.add_zero]
        refine d22.st hv 6 (by omega) (by omega) (sumN N v ((pl N s (k : Int)).1, w64 (s.2.1 + (N k).size), s.2.2)) (fun u hu => by rw [sumN_out hu, sumN_out hu]) (by rw [sumN_at, sumN_at]; rfl) fun h31 d31 f31 z31 => nn_of ?_
        simp only [add_mk]
        refine ldI_of (by rw [d31.cell hv 8 (by omega) (by omega), sumN_at]; rfl) (lk d31 (K := fun a36 => ldI .i64 h31 ((a36.add (Int.toNat (k : Int) * 9)).add 8) _) ?_)
        simp only [add_mk, Nat.zero_add, Int.toNat_natCast]
        refine ldI_of (by rw [d31.cell hkn 8 (by omega) (by omega), sumN_out hkv]; rfl) (nn_of ?_)
        simp only [add_mk, Nat.add_zero]
        have e : sumN N v ((pl N s (k : Int)).1, w64 (s.2.1 + (N k).size), w64 (s.2.2 + (N k).all)) = sumN N v (pl N s (k : Int)) := by
          unfold pl; rw [if_neg (by omega)]; simp only [Int.toNat_natCast]
        refine d31.st hv 8 (by omega) (by omega) (sumN N v (pl N s (k : Int))) (fun u hu => by rw [sumN_out hu, sumN_out hu]) (by rw [← e, sumN_at, sumN_at]; rfl) fun h39 d39 f39 z39 => hk _ d39 ((f22.trans f31).trans f39) (by omega)
      · refine lk ds (K := fun a42 => ldI .i64 g' ((a42.add (Int.toNat (k : Int) * 9)).add 5) _) ?_
        simp only [add_mk, Nat.zero_add, Int.toNat_natCast]
        refine ldI_of (by rw [ds.cell hkn 5 (by omega) (by omega), sumN_out hkv]; rfl) (nn_of ?_)
        simp only [add_mk]
        refine ldI_of (by rw [ds.cell hv 5 (by omega) (by omega), sumN_at]; rfl) ?_
        rw [hm, hms]
        refine before_spec ds hmn msn _ ?_
        have eb : bef (sumN N v s) m ms ↔ bef N m ms := by
          have ek : ∀ u, (sumN N v s u).key = (N u).key := fun u => by
            unfold sumN; by_cases q : u = v
            · subst q; simp
            · simp [q]
          unfold bef; rw [ek, ek]
        have e1 : (pl N s (k : Int)).1 = if bef N m ms then (m : Int) else s.1 := by
          unfold pl; rw [if_neg (by omega)]; simp only [Int.toNat_natCast, hm, hms]
        refine cnd_of (fun c1 => ?_) fun c1 => hK23 _ _ ⟨fg, zg, ?_⟩
        · have c1' : bef N m ms := eb.1 (by simpa using c1)
          refine lk ds (K := fun a42 => ldI .i64 g' ((a42.add (Int.toNat (k : Int) * 9)).add 5) _) ?_
          simp only [add_mk, Nat.zero_add, Int.toNat_natCast]
          refine ldI_of (by rw [ds.cell hkn 5 (by omega) (by omega), sumN_out hkv]; rfl) (nn_of ?_)
          simp only [add_mk, Nat.add_zero]
          refine ds.st hv 5 (by omega) (by omega) (sumN N v ((pl N s (k : Int)).1, s.2.1, s.2.2)) (fun u hu => by rw [sumN_out hu, sumN_out hu]) (by rw [sumN_at, sumN_at, e1, if_pos c1', hm]; rfl) fun h53 d53 f53 z53 => hK23 _ _ ⟨fg.trans f53, by omega, d53⟩
        · have c1' : ¬ bef N m ms := fun q => by rw [decide_eq_true (eb.2 q)] at c1; cases c1
          rw [e1, if_neg c1']; exact ds
    subst hx
    have : i = 0 ∨ i = 1 := by omega
    rcases this with rfl | rfl
    · exact step s0 (.inl rfl) ok0 dg fun g'' d'' f'' z'' => hKr hi2 _ _ ⟨rfl, f'', z'', d''⟩
    · exact step (pl N s0 (N v).k0) (.inr rfl) ok1 dg fun g'' d'' f'' z'' => hKr hi2 _ _ ⟨rfl, f'', z'', d''⟩
  · simp only [decide_eq_false_iff_not] at cc
    obtain rfl : i = 2 := by omega
    refine hK g ?_ fg zg
    have : pullN N v = sumN N v (pl N (pl N s0 (N v).k0) (N v).k1) := by funext u; rw [hs0]; rfl
    rw [this]; exact dg
end

end Go.Hx
