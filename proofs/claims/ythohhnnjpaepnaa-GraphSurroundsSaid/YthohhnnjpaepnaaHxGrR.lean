/- The document's graphs, over the abstract heap. No condition. -/
import Derived.Test.YthohhnnjpaepnaaHxGrC
namespace Go.Hx
set_option linter.unusedSimpArgs false
set_option linter.unusedVariables false

/-! ### The document's graph -/

structure RG (h : Hp) (a : Nat) (e : Sl) (n m : Nat) (M : List Int) (B : Nat) : Prop where
  hd : h.blk a = some (.cells [.bool true, .int .i64 (n : Nat), .slice e.a e.n e.c])
  le : Lst h 3 e (ints M) B
  en : e.n = m
  ok : GOk (n : Int) m M
  ia : B ≤ a ∧ a < h.size

theorem RG.keep {h h' : Hp} {a : Nat} {e : Sl} {n m : Nat} {M : List Int} {B : Nat} (d : RG h a e n m M B) (hz : h.size ≤ h'.size) (hb : ∀ c, B ≤ c → c < h.size → h'.blk c = h.blk c) : RG h' a e n m M B :=
  ⟨(hb _ d.ia.1 d.ia.2).trans d.hd, d.le.keep hz fun x hx => hb _ (d.le.blk_lt hx).1 (d.le.blk_lt hx).2.1, d.en, d.ok, d.ia.1, Nat.lt_of_lt_of_le d.ia.2 hz⟩
theorem RG.fr {h h' : Hp} {a : Nat} {e : Sl} {n m : Nat} {M : List Int} {B : Nat} (d : RG h a e n m M B) (f : Fr h.size h h') : RG h' a e n m M B := d.keep f.size fun c _ hc => f.blk c hc
theorem RG.cell {h : Hp} {a : Nat} {e : Sl} {n m : Nat} {M : List Int} {B : Nat} (d : RG h a e n m M B) (k : Nat) : h.cell ⟨a, k, none⟩ = [Value.bool true, .int .i64 (n : Nat), .slice e.a e.n e.c][k]? := cell_own d.hd k

theorem rgNew_spec (n : Int) (s : Sl) (M : List Int) (h : Hp) (hr : Rd h 3 s (ints M)) (K : Option Addr → Int → Hp → Prop) (hbad : ∀ e, GErr n s.n M e → K none e h)
    (hok : ∀ (N : Nat) h' a e, n = N → GOk n s.n M → RG h' a e N s.n M h.size → Fr h.size h h' → K (some ⟨a, 0, none⟩) 0 h') : g_ref13_New n s h K := by
  unfold g_ref13_New
  refine cnd_of (fun c => hbad _ (.inl ⟨rfl, ?_⟩)) fun c1 => cnd_of (fun c => hbad _ (.inl ⟨rfl, ?_⟩)) fun c2 => cnd_of (fun c => hbad _ (.inl ⟨rfl, ?_⟩)) fun c3 => ?_
  all_goals simp only [decide_eq_true_eq, decide_eq_false_iff_not, Int.ofNat_eq_natCast] at *
  · omega
  · omega
  · omega
  have g0 : 0 ≤ n ∧ n ≤ 4096 ∧ s.n ≤ 16384 := by omega
  refine jn_of (fun _ h2 => h2 = h ∧ GOk n s.n M) ?_ fun K3 hK3 => ?_
  case refine_1 =>
    rintro ⟨⟩ h2 ⟨rfl, ok⟩
    refine alo_of fun h5 z5 b5 k5 => ?_
    have f5 : Fr h2.size h2 h5 := ⟨by omega, k5⟩
    have L1 : Lst h5 3 ⟨some ⟨h2.size, 0, none⟩, 0, 0⟩ [] h2.size := ⟨by simp, Nat.le_refl _, .inr ⟨h2.size, [], rfl, Nat.le_refl _, by omega, b5, rfl⟩⟩
    refine app_lst L1 f5.size (hr.fr f5).1 (ints_one _) rfl (by simp only; omega) (by simp only; omega) fun s' h7 l7 hn' z7 f7 k7 a7 => alo_of fun h9 z9 b9 k9 => ?_
    obtain ⟨N, rfl⟩ : ∃ N : Nat, n = N := ⟨n.toNat, by omega⟩
    have f9 : Fr h7.size h7 h9 := ⟨by omega, k9⟩
    exact hok N h9 h7.size s' rfl ok ⟨b9, by simpa using l7.fr f9, by simp only at hn'; omega, ok, by omega, by omega⟩ ⟨by omega, fun y hy => by rw [k9 y (by omega), f7.blk y (by omega), k5 y hy]⟩
  refine for_of s.n (fun i (st : Int × Unit) g => st.1 = (i : Int) ∧ g = h ∧ ∀ j, j < i → okE n M j) ?_ ⟨rfl, rfl, fun j hj => by omega⟩
  rintro i Kr ⟨st, u⟩ g hi ⟨rfl, rfl, hj⟩ hKr
  refine cnd_of (fun c => ?_) fun c => ?_
  · simp only [decide_eq_true_eq] at c
    have hin : i < s.n := by omega
    have er : outE n M i → K none 3 g := fun q => hbad 3 (.inr ⟨g0, i, hin, hj, .inl ⟨rfl, q⟩⟩)
    refine rd3k hr hin (by omega) (cnd_of (fun c1 => er fun q => ?_) fun c1 => rd3k hr hin (by omega) (cnd_of (fun c2 => er fun q => ?_) fun c2 => rd3k hr hin (by omega) (cnd_of (fun c3 => er fun q => ?_) fun c3 => rd3k hr hin (by omega) (cnd_of (fun c4 => er fun q => ?_) fun c4 =>
      rd3k hr hin (by omega) (rd3k hr hin (by omega) (cnd_of (fun c5 => ?_) fun c5 => hKr hin _ _ ⟨?_, rfl, fun j hj' => ?_⟩))))))
    all_goals simp only [decide_eq_true_eq, decide_eq_false_iff_not, beq_iff_eq, beq_eq_false_iff_ne] at *
    · omega
    · omega
    · omega
    · omega
    · exact hbad 9 (.inr ⟨g0, i, hin, hj, .inr ⟨rfl, fun q => q ⟨by omega, by omega, by omega, by omega⟩, fun q => q.2 c5⟩⟩)
    · rw [w64, w64_eq (by omega) (by omega)]; omega
    · by_cases e : j = i
      · subst e; exact ⟨⟨by omega, by omega, by omega, by omega⟩, c5⟩
      · exact hj j (by omega)
  · simp only [decide_eq_false_iff_not, Int.ofNat_eq_natCast] at c
    obtain rfl : i = s.n := by omega
    exact hK3 _ _ ⟨rfl, g0.1, g0.2.1, g0.2.2, hj⟩

theorem rgValid_spec {h : Hp} {a : Nat} {e : Sl} {n m : Nat} {M : List Int} {B : Nat} (d : RG h a e n m M B) (K : Bool → Hp → Prop) (hK : K true h) : g_ref13_Graph_valid (some ⟨a, 0, none⟩) h K := by
  unfold g_ref13_Graph_valid
  refine cnd_t rfl (nn_of ?_)
  simp only [add_mk, Nat.zero_add]
  exact ldB_of (by rw [d.cell]; rfl) hK

def sumL (L : List Nat) : Nat := L.foldr (· + ·) 0
theorem sumL_set {L : List Nat} {i v : Nat} (hi : i < L.length) : sumL (L.set i v) + gt L i = sumL L + v := by
  induction L generalizing i with
  | nil => simp at hi
  | cons a L ih =>
    cases i with
    | zero => simp [sumL, gt]; omega
    | succ i =>
      have := ih (i := i) (by simpa using hi)
      simp only [List.set_cons_succ, sumL, List.foldr_cons] at *
      simp [gt] at *
      omega

theorem set1_spec {h : Hp} {s : Sl} {L : List Nat} {B i v : Nat} (l : Lst h 1 s (ints (nats L)) B) (hi : i < L.length) (K : Hp → Prop) (hK : ∀ h' : Hp, h'.size = h.size → Lst h' 1 s (ints (nats (L.set i v))) B → (∀ c, nb s c → h'.blk c = h.blk c) → K h') :
    ix s.a s.n (i : Int) fun a => stc h ((a.add (Int.toNat (i : Int) * 1)).add 0) (.int .i64 (v : Nat)) K := by
  have hn : s.n = L.length := by have := l.1; rw [ints_len, nats_len] at this; omega
  refine ix_st1 l (by omega) (by omega) rfl fun h' z l' k => hK h' z (by rw [Int.toNat_natCast, nats_set] at l'; exact l') k

theorem get1_spec {h : Hp} {s : Sl} {L : List Nat} {i : Nat} (l : Rd h 1 s (ints (nats L))) (hi : i < L.length) (K : Int → Prop) (hK : K ((gt L i : Nat) : Int)) :
    ix s.a s.n (i : Int) fun a => ldI .i64 h (a.add (Int.toNat (i : Int) * 1)) K := by
  have hn : s.n = L.length := by have := l.ilen; rw [nats_len] at this; omega
  refine ix_ld1 l (by omega) (by omega) rfl ?_
  rw [Int.toNat_natCast, nats_getD]; exact hK

/-- Labels on their way. -/
structure LW (P : Nat → Nat → Prop) (n : Nat) (L : List Nat) : Prop where
  len : L.length = n
  le : ∀ v, v < n → gt L v ≤ v
  con : ∀ v, v < n → Cn P v (gt L v)

theorem LW.step {P : Nat → Nat → Prop} {n : Nat} {L : List Nat} (d : LW P n L) {u v : Nat} (hu : u < n) (hv : v < n) (c : Cn P v u) (hlt : gt L u < gt L v) : LW P n (L.set v (gt L u)) ∧ sumL (L.set v (gt L u)) < sumL L := by
  have hl := d.len
  refine ⟨⟨by simp [hl], fun w hw => ?_, fun w hw => ?_⟩, ?_⟩
  · rw [gt_set]; split
    · rename_i q; have := d.le v hv; omega
    · exact d.le w hw
  · rw [gt_set]; split
    · rename_i q; obtain ⟨rfl, _⟩ := q; exact c.trans (d.con u hu)
    · exact d.con w hw
  · have := sumL_set (L := L) (i := v) (v := gt L u) (by omega); omega

set_option maxHeartbeats 1000000 in
theorem rgLabels_spec {h : Hp} {a : Nat} {e : Sl} {n m : Nat} {M : List Int} {B : Nat} (d : RG h a e n m M B) (K : Sl → Hp → Prop)
    (hK : ∀ s h' L, Lst h' 1 s (ints (nats L)) h.size → LC (eP M m) n L → Fr h.size h h' → K s h') : g_ref13_Graph_Labels (some ⟨a, 0, none⟩) h K := by
  have nn' : n ≤ 4096 := by have := d.ok.2.1; omega
  have nm := d.ok.2.2.1
  have hE : ∀ {i}, i < m → eU M i < n ∧ eV M i < n ∧ eU M i ≠ eV M i ∧ M.getD (i * 3 + 0) 0 = (eU M i : Nat) ∧ M.getD (i * 3 + 1) 0 = (eV M i : Nat) := fun {i} hi => (d.ok.2.2.2 i hi).lt
  unfold g_ref13_Graph_Labels
  refine rgValid_spec d _ (cnd_f rfl ?_)
  refine jn_of (fun s g => Fr h.size h g ∧ Lst g 1 s.1 (ints (nats (idL n))) h.size) ?_ fun K5 hK5 => ?_
  case refine_2 =>
    refine for_of n (fun k (s : Sl × Int × Unit) g => s.2.1 = (k : Int) ∧ Fr h.size h g ∧ Lst g 1 s.1 (ints (nats (idL k))) h.size) ?_ ⟨rfl, Fr.refl _ _, Lst.nil _ _ _⟩
    rintro k Kr ⟨s, st, u⟩ g hk ⟨h0, fg, lg⟩ hKr
    simp only at h0 lg
    subst h0
    have hn : s.n = k := by have := lg.1; rw [ints_len, nats_len] at this; simp [idL] at this; omega
    refine nn_of ?_
    simp only [add_mk, Nat.zero_add]
    refine ldI_of (by rw [(d.fr fg).cell]; rfl) (cnd_of (fun c => ?_) fun c => ?_)
    · simp only [decide_eq_true_eq] at c
      refine app1_spec lg fg.size (by omega) fun s' h' l' z' k' => hKr (by omega) _ _ ⟨?_, ⟨by have := fg.size; omega, fun y hy => ?_⟩, ?_⟩
      · simp only; rw [w64, w64s (by omega)]
      · rw [(k' y (by have := fg.size; omega) fun x hx => by have := (lg.blk_lt hx).1; omega).1, fg.blk y hy]
      · have : nats (idL k) ++ [(k : Int)] = nats (idL (k + 1)) := by simp [nats, idL, List.range_succ]
        rw [← this]; exact l'
    · simp only [decide_eq_false_iff_not] at c
      obtain rfl : k = n := by omega
      exact hK5 _ _ ⟨fg, lg⟩
  rintro ⟨s, u⟩ h4 ⟨f4, l4⟩
  simp only at l4
  have dd : ∀ {g : Hp}, Fr h.size h g → RG g a e n m M B := fun fg => d.fr fg
  have kf : ∀ {g g' : Hp} {L : List Nat}, Fr h.size h g → Lst g 1 s (ints (nats L)) h.size → g'.size = g.size → (∀ c, nb s c → g'.blk c = g.blk c) → Fr h.size h g' := fun {g g' L} fg lg z k => ⟨by have := fg.size; omega, fun y hy => by rw [k y fun x hx => by have := (lg.blk_lt hx).1; omega, fg.blk y hy]⟩
  refine loop_of (fun q (st : Bool × Unit) g => Fr h.size h g ∧ ∃ L, Lst g 1 s (ints (nats L)) h.size ∧ LW (eP M m) n L ∧ (st.1 = true → sumL L < q) ∧ (st.1 = false → ∀ i, i < m → gt L (eU M i) = gt L (eV M i))) ?_ (n := sumL (idL n) + 1)
    ⟨f4, idL n, l4, ⟨by simp [idL], fun v hv => by rw [idL_gt hv]; exact Nat.le_refl _, fun v hv => by rw [idL_gt hv]; exact .refl v⟩, fun _ => by omega, fun q => by cases q⟩
  rintro q Kw ⟨ch, u⟩ g ⟨fg, L, lg, lw, hq, hcl⟩ hKw
  refine cnd_of (fun c => ?_) fun c => ?_
  · simp only at c
    have hq := hq c
    refine for_of m (fun i (st : Bool × Int × Unit) g => st.2.1 = (i : Int) ∧ Fr h.size h g ∧ ∃ L', Lst g 1 s (ints (nats L')) h.size ∧ LW (eP M m) n L' ∧ sumL L' ≤ sumL L ∧ (st.1 = true → sumL L' < sumL L) ∧ (st.1 = false → ∀ j, j < i → gt L' (eU M j) = gt L' (eV M j))) ?_
      ⟨rfl, fg, L, lg, lw, Nat.le_refl _, (fun q => by cases q), fun _ j hj => by omega⟩
    clear hcl
    rintro i Ke ⟨ch2, st, u⟩ g2 hi ⟨h0, fg2, L2, lg2, lw2, hle, hlt, hcl⟩ hKe
    simp only at h0 hlt hcl
    subst h0
    have d2 := dd fg2
    have hl2 := lw2.len
    refine nn_of ?_
    simp only [add_mk, Nat.zero_add]
    refine ldS_of (by rw [d2.cell]; rfl) (cnd_of (fun c2 => nn_of ?_) fun c2 => ?_)
    · simp only [decide_eq_true_eq, d2.en, Int.ofNat_eq_natCast] at c2
      have him : i < m := by omega
      obtain ⟨hu, hv, hne, e1, e2⟩ := hE him
      have cuv : Cn (eP M m) (eU M i) (eV M i) := .one ⟨i, him, rfl, rfl⟩
      simp only [add_mk, Nat.zero_add]
      refine ldS_of (by rw [d2.cell]; rfl) (rd3k d2.le.rd (by rw [d2.en]; exact him) (by omega) (nn_of ?_))
      rw [e1]
      simp only [add_mk, Nat.zero_add]
      refine ldS_of (by rw [d2.cell]; rfl) (rd3k d2.le.rd (by rw [d2.en]; exact him) (by omega) ?_)
      rw [e2]
      refine jn_of (fun s' g => Fr h.size h g ∧ ∃ L', Lst g 1 s (ints (nats L')) h.size ∧ LW (eP M m) n L' ∧ sumL L' ≤ sumL L ∧ (s'.1 = true → sumL L' < sumL L) ∧ gt L' (eU M i) ≥ gt L' (eV M i) ∧ (s'.1 = false → ∀ j, j < i → gt L' (eU M j) = gt L' (eV M j))) ?_ fun K24 hK24 => ?_
      case refine_2 =>
        refine get1_spec lg2.rd (by omega) _ (get1_spec lg2.rd (by omega) _ (cnd_of (fun c3 => ?_) fun c3 => ?_))
        · simp only [decide_eq_true_eq] at c3
          obtain ⟨lw3, hs3⟩ := lw2.step hu hv cuv.symm (by omega)
          refine get1_spec lg2.rd (by omega) _ (set1_spec lg2 (by omega) _ fun h' z' l' k' => hK24 _ _ ⟨kf fg2 lg2 z' k', _, l', lw3, by omega, (fun _ => by omega), ?_, fun q => by cases q⟩)
          rw [gt_set, gt_set, if_neg (fun q => hne q.1.symm), if_pos ⟨rfl, by omega⟩]; exact Nat.le_refl _
        · simp only [decide_eq_false_iff_not] at c3
          exact hK24 _ _ ⟨fg2, L2, lg2, lw2, hle, hlt, by omega, hcl⟩
      rintro ⟨ch', u⟩ g3 ⟨fg3, L3, lg3, lw3, hle3, hlt3, hge3, hcl3⟩
      simp only at hlt3 hcl3
      have hl3 := lw3.len
      have ei : w64 ((i : Int) + 1) = ((i + 1 : Nat) : Int) := by rw [w64, w64s (by omega)]
      simp only [ei]
      refine get1_spec lg3.rd (by omega) _ (get1_spec lg3.rd (by omega) _ (cnd_of (fun c3 => ?_) fun c3 => ?_))
      · simp only [decide_eq_true_eq] at c3
        obtain ⟨lw4, hs4⟩ := lw3.step hv hu cuv (by omega)
        refine get1_spec lg3.rd (by omega) _ (set1_spec lg3 (by omega) _ fun h' z' l' k' => hKe him _ _ ⟨rfl, kf fg3 lg3 z' k', _, l', lw4, by omega, (fun _ => by omega), fun q => by cases q⟩)
      · simp only [decide_eq_false_iff_not] at c3
        refine hKe him _ _ ⟨rfl, fg3, L3, lg3, lw3, hle3, hlt3, fun q j hj => ?_⟩
        by_cases ej : j = i
        · subst ej; omega
        · exact hcl3 q j (by omega)
    · simp only [decide_eq_false_iff_not, d2.en, Int.ofNat_eq_natCast] at c2
      obtain rfl : i = m := by omega
      obtain ⟨q', rfl⟩ : ∃ q', q = q' + 1 := ⟨q - 1, by omega⟩
      exact hKw q' rfl _ _ ⟨fg2, L2, lg2, lw2, (fun q => by have := hlt q; omega), fun q j hj => hcl q j hj⟩
  · simp only at c
    refine hK _ g L lg ⟨lw.len, lw.le, lw.con, ?_⟩ fg
    rintro u v ⟨i, hi, rfl, rfl⟩
    exact hcl c i hi

end Go.Hx
