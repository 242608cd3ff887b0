/- The chapter's example, and what small tori show. No condition. -/
import Derived.Test.YtdponlecglgmbaaHxTorD
namespace Go.Hx
set_option linter.unusedSimpArgs false
set_option linter.unusedVariables false

theorem nw {w t : Nat} {E : List Nat} {k : Bool} (p : Nat → Int) (hp : ∀ e ∈ E, p (e / 2) = p (toV w t (e / 2) (e % 2)) + pr k (stX (e % 2)) (stY (e % 2))) (v : Nat) : ¬ WrapC (eR w t E) v k := by
  rintro ⟨x, y, h, hk⟩
  have := (h.pot k (fun _ => True) p (fun _ _ _ _ _ => Iff.rfl) (fun b c s q e _ => by
    obtain ⟨f, hf, rfl, rfl, rfl, rfl⟩ := e
    exact hp f hf) trivial).2
  omega

theorem nc {w t : Nat} {E : List Nat} (p : Nat → Nat) (hp : ∀ e ∈ E, p (e / 2) = p (toV w t (e / 2) (e % 2))) {a b : Nat} (h : Conn (eR w t E) a b) : p a = p b := by
  obtain ⟨x, y, h⟩ := h
  exact ((h.const (fun c => p c = p a) (fun b c s q e => by
    obtain ⟨f, hf, rfl, rfl, rfl, rfl⟩ := e
    rw [hp f hf])).1 rfl).symm

theorem compN_lab {n : Nat} {R : ER} (l : Nat → Nat) (h1 : ∀ a b, a < n → b < n → (Conn R a b ↔ l a = l b)) (h2 : ∀ v, v < n → l v ≤ v) (h3 : ∀ v, v < n → l (l v) = l v) : compN n R = cntB n fun v => l v == v := by
  refine cntB_congr fun v hv => ?_
  rw [Bool.eq_iff_iff, beq_iff_eq]
  refine Iff.trans (@decide_eq_true_iff _ (Classical.propDecidable _)) ?_
  constructor
  · intro h
    have a := h2 v hv
    rcases Nat.lt_or_ge (l v) v with b | b
    · exact absurd ((h1 _ _ (by omega) hv).2 (h3 v hv)) (h _ b)
    · omega
  · intro h u hu c
    have := (h1 u v (by omega) hv).1 c
    have := h2 u (by omega)
    omega

theorem eR_mem {w t : Nat} {E : List Nat} (e : Nat) (he : e ∈ E) : eR w t E (e / 2) (toV w t (e / 2) (e % 2)) (stX (e % 2)) (stY (e % 2)) := ⟨e, he, rfl, rfl, rfl, rfl⟩

theorem Wk.uniq {R : ER} {a b : Nat} (hk : ∀ k, ¬ WrapC R a k) {x y s t : Int} (h : Wk R a b x y) (g : Wk R a b s t) : x = s ∧ y = t := by
  have c := h.trans g.symm
  have e0 : x + -s = 0 := Classical.byContradiction fun e => hk false ⟨_, _, c, e⟩
  have e1 : y + -t = 0 := Classical.byContradiction fun e => hk true ⟨_, _, c, e⟩
  omega

theorem Conn.lab {w t : Nat} {E : List Nat} {a b : Nat} {s q : Int} (h : Wk (eR w t E) a b s q) : Conn (eR w t E) a b := ⟨_, _, h⟩

theorem works_spec (h : Hp) (K : Bool → Hp → Prop) (hK : ∀ h', Fr h.size h h' → K true h') : g_law30_works h K := by
  unfold g_law30_works
  refine New_spec _ _ _ _ (fun g => absurd ⟨by omega, by omega, by omega⟩ g) fun w t hx hy _ h3 o d hlo f3 => ?_
  obtain rfl : w = 3 := by omega
  obtain rfl : t = 2 := by omega
  have e0 : TS h3 o 3 2 (eR 3 2 []) := by rw [eR_nil]; exact ⟨_, _, _, _, _, _, _, _, _, _, _, d⟩
  clear d
  refine cnd_f rfl (cnd_f rfl ?_)
  refine Add_e e0 0 (by omega) _ fun h6 b6 e6 f6 i6 _ => ?_
  refine Add_e e6 2 (by omega) _ fun h9 b9 e9 f9 i9 _ => ?_
  have t6 : b6 = true := i6.2 fun c => by
    have := nc (E := []) (w := 3) (t := 2) id (fun e he => by cases he) c
    revert this; decide
  have t9 : b9 = true := i9.2 fun c => by
    have := nc (E := [0]) (w := 3) (t := 2) (fun v => if v = 1 then 0 else v) (by decide) c
    revert this; decide
  have k1 : Wk (eR 3 2 [2, 0]) 0 1 1 0 := .one (eR_mem 0 (by decide))
  have k2 : Wk (eR 3 2 [2, 0]) 1 2 1 0 := .one (eR_mem 2 (by decide))
  have k02 : Wk (eR 3 2 [2, 0]) 0 2 2 0 := k1.trans k2
  have nwk : ∀ k, ¬ WrapC (eR 3 2 [2, 0]) 0 k := fun k => by
    cases k
    · exact nw (fun v => -((v % 3 : Nat) : Int)) (by decide) 0
    · exact nw (fun _ => 0) (by decide) 0
  obtain ⟨par, siz, M, W, a0, a1, cnt, L, lea, rk, P, e9⟩ := e9
  refine Offset_spec e9 0 2 _ (fun h' par' M' _ _ hn => absurd ⟨0, 2, rfl, rfl, by omega, by omega, ⟨_, _, k02⟩, nwk⟩ hn) fun h13 par' M' d13 f13 i j hi hj _ _ _ _ x y hxy => ?_
  obtain rfl : i = 0 := by omega
  obtain rfl : j = 2 := by omega
  obtain ⟨rfl, rfl⟩ := hxy.uniq nwk k02
  refine Add_e ⟨_, _, _, _, _, _, _, _, _, _, _, d13⟩ 4 (by omega) _ fun h16 b16 e16 f16 i16 _ => ?_
  have t16 : b16 = false := by
    cases hb : b16 with
    | false => rfl
    | true => exact absurd ⟨_, _, k02.symm⟩ (i16.1 hb)
  obtain ⟨par16, siz16, M16, W16, a16, b16', cnt16, L16, lea16, rk16, P16, e16⟩ := e16
  have m1 : Wk (eR 3 2 [4, 2, 0]) 0 1 1 0 := .one (eR_mem 0 (by decide))
  have m2 : Wk (eR 3 2 [4, 2, 0]) 1 2 1 0 := .one (eR_mem 2 (by decide))
  have m3 : Wk (eR 3 2 [4, 2, 0]) 2 0 1 0 := .one (eR_mem 4 (by decide))
  have t17 : a16 = true := (e16.inv.allW false).2 ⟨0, by omega, _, _, (m1.trans m2).trans m3, by decide⟩
  have t18 : b16' = false := by
    cases hb : b16' with
    | false => rfl
    | true =>
      obtain ⟨v, _, hw⟩ := (e16.inv.allW true).1 hb
      exact absurd hw (nw (fun _ => 0) (by decide) v)
  refine Wraps_spec e16 _ (alo_of fun h21 z21 b21 k21 => ?_)
  have f21 : Fr h16.size h16 h21 := ⟨by omega, k21⟩
  have rd : Rd h21 1 ⟨some ⟨h16.size, 0, none⟩, 4, 4⟩ (ints [0, 2, 1, 4]) := ⟨by rw [seg_row (row_own b21) (by simp)]; rfl, fun a ha _ => by cases ha; simp only; omega⟩
  have nw3 : ¬ wrapped 6 (eR 3 2 (ordE [0, 2, 1, 4] 3)) := by
    rintro ⟨v, _, k, hw⟩
    cases k
    · exact nw (fun v => -((v % 3 : Nat) : Int)) (by decide) v hw
    · exact nw (fun v => -((v / 3 : Nat) : Int)) (by decide) v hw
  have wr4 : wrapped 6 (eR 3 2 (ordE [0, 2, 1, 4] 4)) := by
    have m1 : Wk (eR 3 2 (ordE [0, 2, 1, 4] 4)) 0 1 1 0 := .one (eR_mem 0 (by decide))
    have m2 : Wk (eR 3 2 (ordE [0, 2, 1, 4] 4)) 1 2 1 0 := .one (eR_mem 2 (by decide))
    have m3 : Wk (eR 3 2 (ordE [0, 2, 1, 4] 4)) 2 0 1 0 := .one (eR_mem 4 (by decide))
    exact ⟨0, by omega, false, _, _, (m1.trans m2).trans m3, by decide⟩
  have ok : okOrd 6 [0, 2, 1, 4] := by
    constructor
    · exact (by decide : ∀ i, i < 4 → 0 ≤ ([0, 2, 1, 4] : List Int).getD i 0 ∧ ([0, 2, 1, 4] : List Int).getD i 0 < 12)
    · intro i j hij hj
      exact (by decide : ∀ j, j < 4 → ∀ i, i < j → ([0, 2, 1, 4] : List Int).getD i 0 ≠ ([0, 2, 1, 4] : List Int).getD j 0) j hj i hij
  refine First_spec 3 2 _ [0, 2, 1, 4] _ _ rd (fun i hi => ?_) (by decide) (fun h' _ hb => ?_) (fun h' _ w t hx hy _ _ hn => ?_) fun h25 f25 w t k hx hy _ _ hk hw hnw => ?_
  · have := ok.1 i hi; omega
  · rcases hb with hb | ⟨w, t, hx, hy, hb⟩
    · exact absurd ⟨by omega, by omega, by omega⟩ hb
    · obtain rfl : w = 3 := by omega
      obtain rfl : t = 2 := by omega
      exact absurd ok hb
  · obtain rfl : w = 3 := by omega
    obtain rfl : t = 2 := by omega
    exact absurd wr4 hn
  · obtain rfl : w = 3 := by omega
    obtain rfl : t = 2 := by omega
    have hk3 : k = 3 := by
      rcases Nat.lt_or_ge k 3 with h | h
      · refine absurd (wrapped_mono (eR_mono fun e he => ?_) hw) nw3
        rw [ordE_mem] at he ⊢
        obtain ⟨i, hi, e'⟩ := he
        exact ⟨i, by omega, e'⟩
      · simp at hk; omega
    subst hk3
    have g25 : Fr h.size h h25 := by
      have z3 := f3.size; have z6 := f6.size; have z9 := f9.size; have z13 := f13.size; have z16 := f16.size; have z25 := f25.size
      exact ⟨by omega, fun c hc => by
        rw [f25.blk _ (by omega), f21.blk _ (by omega), f16.blk _ (by omega) (.inl (by omega)), f13.blk _ (by omega) (.inl (by omega)), f9.blk _ (by omega) (.inl (by omega)), f6.blk _ (by omega) (.inl (by omega)), f3.blk _ hc]⟩
    have e25 := (e16.fr f21).fr f25
    rw [t6, t9, t16, t17, t18]
    refine cnd_t rfl (cnd_t rfl (cnd_t rfl (cnd_t rfl (cnd_t rfl (cnd_t rfl (cnd_t rfl (cnd_t rfl (cnd_t rfl (cnd_t rfl (cnd_t rfl (Count_spec e25 _ ?_)))))))))))
    have cn : compN 6 (eR 3 2 [4, 2, 0]) = 4 := by
      rw [compN_lab (fun v => if v < 3 then 0 else v) (fun a b ha hb => ?_) (fun v hv => by split <;> omega) (fun v hv => by split <;> simp <;> omega)]
      · decide
      · constructor
        · exact nc (fun v => if v < 3 then 0 else v) (by decide)
        · intro hl
          have to0 : ∀ v, v < 3 → Conn (eR 3 2 [4, 2, 0]) v 0 := fun v hv => by
            match v, hv with
            | 0, _ => exact Conn.refl 0
            | 1, _ => exact ⟨_, _, m1.symm⟩
            | 2, _ => exact ⟨_, _, m3⟩
          by_cases h1 : a < 3
          · by_cases h2 : b < 3
            · exact (to0 a h1).trans (to0 b h2).symm
            · simp [h1, h2] at hl; omega
          · by_cases h2 : b < 3
            · simp [h1, h2] at hl; omega
            · simp [h1, h2] at hl; rw [hl]; exact Conn.refl b
    rw [cn]
    refine cnd_t rfl (cnd_t rfl (cnd_t rfl ?_))
    exact hK h25 g25

/-! ### The laws' own functions -/

theorem sizes_spec {a b : Nat} (ha : a < 256) (hb : b < 256) (h : Hp) (K : Int → Int → Hp → Prop) (hK : K ((1 + a % 12 : Nat) : Int) ((1 + b % 12 : Nat) : Int) h) : g_law30_sizes (a : Nat) (b : Nat) h K := by
  unfold g_law30_sizes
  have e : ∀ c : Nat, c < 256 → IntKind.i64.wrap (1 + Int.tmod (IntKind.i64.wrap (c : Int)) 12) = ((1 + c % 12 : Nat) : Int) := fun c hc => by
    rw [w64n (by omega), Int.tmod_eq_emod_of_nonneg (by omega), w64_eq (by omega) (by omega)]; omega
  refine ⟨by omega, by omega, ?_⟩
  simp only [w64, e a ha, e b hb]
  exact hK

def kints (k : IntKind) (l : List Nat) : List Value := l.map fun v => .int k (v : Nat)
theorem kints_len (k : IntKind) (l : List Nat) : (kints k l).length = l.length := by simp [kints]
theorem kints_get {k : IntKind} {l : List Nat} {i : Nat} (hi : i < l.length) : (kints k l)[i]? = some (.int k (l.getD i 0 : Nat)) := by
  simp [kints, List.getD, List.getElem?_eq_getElem hi]

/-- What 'edges' chooses, without sorting out. -/
def baseE (n : Nat) (l : List Nat) : List Nat := (l.take 300).map fun v => v % (2 * n)

set_option maxRecDepth 10000 in
theorem edges_spec {n : Nat} (h1 : 1 ≤ n) (hn : n ≤ 4096) {s : Sl} {l : List Nat} (hl : ∀ v ∈ l, v < 65536) (once : Bool) {h : Hp} (hr : Rd h 1 s (kints .u16 l)) (hll : l.length < 2 ^ 63) (K : Sl → Hp → Prop)
    (hK : ∀ s' h' M, Lst h' 1 s' (ints (nats M)) h.size → Fr h.size h h' → (∀ e, e ∈ M ↔ e ∈ baseE n l) → (once = false → M = baseE n l) → (once = true → M.Nodup) → M.length ≤ 300 → K s' h') :
    g_law30_edges (n : Nat) s once h K := by
  have hsn : s.n = l.length := by have := hr.len; rw [kints_len] at this; omega
  unfold g_law30_edges
  have e1 : IntKind.i64.wrap (2 * (n : Int)) = ((2 * n : Nat) : Int) := by rw [show 2 * (n : Int) = ((2 * n : Nat) : Int) by omega, w64n (by omega)]
  simp only [w64, e1]
  refine mks_of (by omega) (by omega) (by omega) fun h2 z2 b2 k2 => ?_
  rw [zrow_one, Int.toNat_natCast] at b2
  have b2 : h2.blk h.size = some (.cells (bools (List.replicate (2 * n) false))) := by rw [b2]; simp [bools]
  refine for_of (min l.length 300) (fun k (s' : Sl × Int × Unit) g => s'.2.1 = (k : Int) ∧ h2.size ≤ g.size ∧ (∀ c, c < h.size → g.blk c = h.blk c) ∧ ∃ M : List Nat, ∃ B : List Bool, Lst g 1 s'.1 (ints (nats M)) h2.size ∧ B.length = 2 * n ∧ g.blk h.size = some (.cells (bools B)) ∧
    (∀ e, e < 2 * n → (B.getD e false = true ↔ e ∈ M)) ∧ (∀ e, e ∈ M ↔ e ∈ (l.take k).map fun v => v % (2 * n)) ∧ (once = false → M = (l.take k).map fun v => v % (2 * n)) ∧ (once = true → M.Nodup) ∧ M.length ≤ k) ?_
    ⟨rfl, Nat.le_refl _, k2, [], List.replicate (2 * n) false, Lst.nil _ _ _, by simp, b2, fun e he => ?_, fun e => by simp, fun _ => rfl, fun _ => List.nodup_nil, by simp⟩
  · rintro k Kr ⟨s', _, u⟩ g hk ⟨rfl, zg, gk, M, B, lM, lB, gB, iB, mM, oM, dM, sM⟩ hKr
    have fin : k = min l.length 300 → K s' g := fun e => by
      have et : l.take k = l.take 300 := by
        rw [e]
        rcases Nat.le_total l.length 300 with q | q
        · rw [Nat.min_eq_left q, List.take_of_length_le (Nat.le_refl _), List.take_of_length_le q]
        · rw [Nat.min_eq_right q]
      rw [et] at mM oM
      exact hK s' g M (lM.le (by omega)) ⟨by omega, gk⟩ mM oM dM (by omega)
    simp only
    refine cnd_of (fun c => ?_) fun c => ?_
    · refine cnd_of (fun c' => ?_) fun c' => ?_
      rotate_left
      · simp only [decide_eq_true_eq, decide_eq_false_iff_not, hsn, Int.ofNat_eq_natCast] at c c'
        exact fin (by omega)
      simp only [decide_eq_true_eq, hsn, Int.ofNat_eq_natCast] at c c'
      have hkl : k < l.length := by omega
      have hkm : k < min l.length 300 := by omega
      have hr' := hr.fr (h' := g) ⟨by omega, gk⟩
      refine ix_seg (i := (k : Int)) hr'.1 (m := s.n * 1) (by omega) (by omega) (by rw [hsn]; omega) fun x hx hsp hc => ?_
      rw [show Int.toNat (k : Int) = k from rfl]
      refine ldI_of (by rw [hc _ (by omega), Nat.mul_one, kints_get hkl]) ⟨by omega, ?_⟩
      have hv : l.getD k 0 < 65536 := hl _ (by rw [List.getD, List.getElem?_eq_getElem hkl]; exact List.getElem_mem hkl)
      obtain ⟨e, he⟩ : ∃ e, e = l.getD k 0 % (2 * n) := ⟨_, rfl⟩
      have hel : e < 2 * n := by rw [he]; exact Nat.mod_lt _ (by omega)
      have e2 : Int.tmod (IntKind.i64.wrap ((l.getD k 0 : Nat) : Int)) ((2 * n : Nat) : Int) = (e : Int) := by
        rw [w64n (by omega), Int.tmod_eq_emod_of_nonneg (by omega), ← Int.natCast_emod, he]
      simp only [e2]
      have tk : (l.take (k + 1)).map (fun v => v % (2 * n)) = (l.take k).map (fun v => v % (2 * n)) ++ [e] := by
        rw [List.take_add_one, List.getElem?_eq_getElem hkl, List.map_append, he, List.getD, List.getElem?_eq_getElem hkl]; rfl
      have hsM : s'.n = M.length := by have : s'.n * 1 = _ := lM.1; rw [ints_len, nats_len] at this; omega
      -- one more
      have more : ¬ (once = true ∧ e ∈ M) → ix (some ⟨h.size, 0, none⟩) (Int.toNat ((2 * n : Nat) : Int)) (e : Int) fun a16 =>
          stc g ((a16.add (Int.toNat (e : Int) * 1)).add 0) (.bool true) fun h17 =>
          alo h17 [.int .i64 (e : Int)] fun a18 h19 =>
          app 1 8 [.int .i64 0] ⟨s'.a, s'.n, s'.c⟩ ⟨(some a18), 1, 1⟩ h19 fun s20 h21 => Kr (s20, IntKind.i64.wrap ((k : Int) + 1), ()) h21 := by
        intro hno
        refine ix_of (by omega) (by rw [Int.toNat_natCast]; omega) ?_
        simp only [add_mk, Nat.zero_add, Nat.add_zero, Nat.mul_one, show Int.toNat (e : Int) = e from rfl]
        refine stc_of gB (by rw [bools_len]; omega) fun h17 z17 b17 k17 => ?_
        have lM' : Lst h17 1 s' (ints (nats M)) h2.size := lM.keep (by omega) fun x hx => k17 _ (by have := (lM.blk_lt hx).1; omega)
        refine app1_spec lM' (by omega) (by omega) fun s2 h21 l21 z21 k21 => hKr hkm _ _ ⟨?_, by omega, fun c hc => ?_, M ++ [e], B.set e true, ?_, by simp [lB], ?_, fun f hf => ?_, fun f => ?_, fun ho => ?_, fun ho => ?_, by simp; omega⟩
        · simp only; rw [w64_eq (by omega) (by omega)]; omega
        · rw [(k21 c (by omega) (fun x hx => by have := (lM.blk_lt hx).1; omega)).1, k17 _ (by omega), gk _ hc]
        · rw [nats_app]; exact l21
        · rw [(k21 h.size (by omega) (fun x hx => by have := (lM.blk_lt hx).1; omega)).1, b17, bools_set]
        · have : (B.set e true).getD f false = if e = f then true else B.getD f false := by
            simp only [List.getD, List.getElem?_set]
            by_cases q : e = f
            · subst q; simp [lB, hf]
            · simp [q]
          rw [this]
          by_cases q : e = f
          · subst q; simp
          · rw [if_neg q, iB f hf]; simp; omega
        · rw [tk]; simp only [List.mem_append, List.mem_singleton, mM f]
        · rw [tk, oM ho]
        · rw [List.nodup_append]
          refine ⟨dM ho, by simp, fun x hx y hy => ?_⟩
          simp at hy
          subst hy
          intro e'
          subst e'
          exact hno ⟨ho, hx⟩
      cases once with
      | false => exact cnd_f rfl (more (by simp))
      | true =>
        refine cnd_t rfl (ix_of (by omega) (by rw [Int.toNat_natCast]; omega) ?_)
        simp only [add_mk, Nat.zero_add, Nat.add_zero, Nat.mul_one, show Int.toNat (e : Int) = e from rfl]
        refine ldB_of (by rw [cell_own gB, bools_get (by omega)]) (cnd_of (fun c3 => ?_) fun c3 => ?_)
        · have hin := (iB e hel).1 c3
          refine hKr hkm _ _ ⟨?_, zg, gk, M, B, lM.eta, lB, gB, iB, fun f => ?_, fun ho => (by cases ho), dM, by omega⟩
          · simp only; rw [w64_eq (by omega) (by omega)]; omega
          · rw [tk, List.mem_append, List.mem_singleton, mM f]
            constructor
            · exact .inl
            · rintro (q | rfl)
              · exact q
              · exact (mM _).1 hin
        · have := more (fun ⟨_, q⟩ => by have := (iB e hel).2 q; rw [c3] at this; cases this)
          simp only [show Int.toNat (e : Int) = e from rfl, Nat.mul_one] at this
          exact this
    · simp only [decide_eq_false_iff_not, hsn, Int.ofNat_eq_natCast] at c
      exact fin (by omega)
  · constructor
    · intro q
      simp only [List.getD, List.getElem?_replicate] at q
      split at q <;> cases q
    · intro q; cases q

/-- Adding a list of edges. -/
theorem put_spec {h : Hp} {o : TOb} {w t : Nat} {E : List Nat} (d : TS h o w t (eR w t E)) {s : Sl} {M : List Nat} (hr : Rd h 1 s (ints (nats M))) (hM : ∀ e ∈ M, e < 2 * (w * t)) (hl : M.length < 2 ^ 30) (hd : ∀ x, s.a = some x → x.block < o.lo ∨ o.hi ≤ x.block) (back : Bool) (K : Int → Hp → Prop)
    (hK : ∀ h' E' (n : Nat), TS h' o w t (eR w t E') → FrO o h h' → (∀ e, e ∈ E' ↔ e ∈ E ∨ e ∈ M) → n + compN (w * t) (eR w t E') = compN (w * t) (eR w t E) → K (n : Nat) h') :
    g_law30_put (some ⟨o.a, 0, none⟩) (w : Nat) s back h K := by
  have hsn : s.n = M.length := by have := hr.ilen; rw [nats_len] at this; omega
  have hw1 : 1 ≤ w := by obtain ⟨_, _, _, _, _, _, _, _, _, _, _, d⟩ := d; exact d.w1
  have hwt : w * t ≤ 4096 := by obtain ⟨_, _, _, _, _, _, _, _, _, _, _, d⟩ := d; exact d.wt
  unfold g_law30_put
  -- the order in which they come
  obtain ⟨N, hN⟩ : ∃ N : Nat → Nat, N = fun k => if back then M.getD (M.length - 1 - k) 0 else M.getD k 0 := ⟨_, rfl⟩
  refine for_of M.length (fun k (s' : Int × Int × Unit) g => s'.2.1 = (k : Int) ∧ ∃ E' : List Nat, ∃ n : Nat, s'.1 = (n : Int) ∧ n ≤ k ∧ TS g o w t (eR w t E') ∧ FrO o h g ∧ (∀ e, e ∈ E' ↔ e ∈ E ∨ ∃ i, i < k ∧ N i = e) ∧ n + compN (w * t) (eR w t E') = compN (w * t) (eR w t E)) ?_
    ⟨rfl, E, 0, rfl, Nat.le_refl _, d, FrO.refl _ _, fun e => ⟨.inl, fun q => q.elim id fun ⟨i, hi, _⟩ => by omega⟩, by omega⟩
  rintro k Kr ⟨_, _, u⟩ g hk ⟨rfl, E', n, rfl, hnk, dg, fg, mE, hn⟩ hKr
  have hrg : Rd g 1 s (ints (nats M)) := by
    refine ⟨?_, fun a ha hp => by have := hr.2 a ha hp; have := fg.size; omega⟩
    by_cases hz : s.n * 1 = 0
    · rw [hz, seg_zero, ← seg_zero h s.a, ← hz]; exact hr.1
    · rw [seg_blk fun a ha => fg.blk _ (hr.2 a ha (by omega)) (hd a ha)]; exact hr.1
  refine cnd_of (fun c => ?_) fun c => ?_
  · simp only [decide_eq_true_eq, hsn, Int.ofNat_eq_natCast] at c
    have hkl : k < M.length := by omega
    dsimp only
    refine ix_ld1 hrg (by omega) (by rw [hsn]; omega) rfl ?_
    rw [show Int.toNat (k : Int) = k from rfl, nats_getD]
    refine jn_of (fun s' g' => s'.1 = (N k : Int) ∧ g' = g) ?_ fun K8 hK8 => cnd_of (fun cb => ?_) fun cb => hK8 _ _ ⟨by rw [hN, cb]; simp only [Bool.false_eq_true, if_false], rfl⟩
    case refine_2 =>
      have ei : IntKind.i64.wrap (IntKind.i64.wrap ((s.n : Int) - 1) - (k : Int)) = ((M.length - 1 - k : Nat) : Int) := by
        rw [w64_eq (x := (s.n : Int) - 1) (by omega) (by omega), w64_eq (by omega) (by omega)]; omega
      simp only [w64, Int.ofNat_eq_natCast, ei]
      refine ix_ld1 hrg (by omega) (by rw [hsn]; omega) rfl ?_
      rw [show Int.toNat ((M.length - 1 - k : Nat) : Int) = M.length - 1 - k from rfl, nats_getD]
      refine hK8 _ _ ⟨by rw [hN, cb]; simp only [if_true], rfl⟩
    rintro ⟨_, u⟩ _ ⟨rfl, rfl⟩
    have hin : N k ∈ M := by
      rw [hN]
      simp only
      split
      · rw [List.getD, List.getElem?_eq_getElem (by omega)]; exact List.getElem_mem _
      · rw [List.getD, List.getElem?_eq_getElem hkl]; exact List.getElem_mem _
    have hel := hM _ hin
    generalize hNk : N k = e at *
    have t1 : IntKind.i64.wrap (Int.tdiv (e : Int) 2) = ((e / 2 : Nat) : Int) := by rw [Int.tdiv_eq_ediv_of_nonneg (by omega)]; rw [w64_eq (by omega) (by omega)]; omega
    have t2 : Int.tmod ((e / 2 : Nat) : Int) (w : Int) = ((e / 2 % w : Nat) : Int) := by rw [Int.tmod_eq_emod_of_nonneg (by omega), ← Int.natCast_emod]
    have t3 : IntKind.i64.wrap (Int.tdiv ((e / 2 : Nat) : Int) (w : Int)) = ((e / 2 / w : Nat) : Int) := by
      rw [Int.tdiv_eq_ediv_of_nonneg (by omega), ← Int.natCast_ediv, w64n]
      exact Nat.le_trans (Nat.div_le_self _ _) (by omega)
    have t4 : Int.tmod (e : Int) 2 = ((e % 2 : Nat) : Int) := by rw [Int.tmod_eq_emod_of_nonneg (by omega)]; omega
    simp only [w64, t1, t2, t3, t4]
    refine ⟨by omega, by omega, by omega, by omega, by omega, ?_⟩
    refine Add_e dg e hel _ fun h11 b d11 f11 hb hc => cnd_f rfl ?_
    have mE' : ∀ f, f ∈ e :: E' ↔ f ∈ E ∨ ∃ i, i < k + 1 ∧ N i = f := fun f => by
      rw [List.mem_cons, mE f]
      constructor
      · rintro (rfl | q | ⟨i, hi, q⟩)
        · exact .inr ⟨k, by omega, hNk⟩
        · exact .inl q
        · exact .inr ⟨i, by omega, q⟩
      · rintro (q | ⟨i, hi, q⟩)
        · exact .inr (.inl q)
        · by_cases hik : i = k
          · subst hik; exact .inl (by rw [← q, hNk])
          · exact .inr (.inr ⟨i, by omega, q⟩)
    refine cnd_of (fun c4 => hKr hkl _ _ ⟨?_, e :: E', n + 1, ?_, by omega, d11, fg.trans f11, mE', ?_⟩) fun c4 => hKr hkl _ _ ⟨?_, e :: E', n, rfl, by omega, d11, fg.trans f11, mE', ?_⟩
    · simp only; rw [w64_eq (by omega) (by omega)]; omega
    · simp only; rw [w64_eq (by omega) (by omega)]; omega
    · rw [c4] at hc; simp only [if_true] at hc; omega
    · simp only; rw [w64_eq (by omega) (by omega)]; omega
    · rw [c4] at hc; simp only [Bool.false_eq_true, if_false] at hc; omega
  · simp only [decide_eq_false_iff_not, hsn, Int.ofNat_eq_natCast] at c
    have hkl : k = M.length := by omega
    refine hK g E' n dg fg (fun e => ?_) hn
    rw [mE e]
    refine or_congr Iff.rfl ⟨fun ⟨i, hi, q⟩ => ?_, fun q => ?_⟩
    · rw [← q, hN]
      simp only
      split
      · rw [List.getD, List.getElem?_eq_getElem (by omega)]; exact List.getElem_mem _
      · rw [List.getD, List.getElem?_eq_getElem (by omega)]; exact List.getElem_mem _
    · obtain ⟨i, hi, q⟩ := List.mem_iff_getElem.1 q
      by_cases hb : back = true
      · refine ⟨M.length - 1 - i, by omega, ?_⟩
        rw [hN]; simp only [hb, if_true]
        rw [show M.length - 1 - (M.length - 1 - i) = i by omega, List.getD, List.getElem?_eq_getElem hi]; exact q
      · refine ⟨i, by omega, ?_⟩
        have hb : back = false := by simpa using hb
        rw [hN]; simp only [hb, Bool.false_eq_true, if_false]
        rw [List.getD, List.getElem?_eq_getElem hi]; exact q

end Go.Hx
