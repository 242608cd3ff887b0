/- The document's forest: what changes it. No condition. -/
import Derived.Test.YtjpmgekdgpkcfaaHxLctRc
import Derived.Test.YtjpmgekdgpkcfaaHxLctLG
namespace Go.Hx
set_option linter.unusedSimpArgs false
set_option linter.unusedVariables false

section
variable {h : Hp} {A n : Nat} {L : Es} {key : Nat → Int} {k e : Sl} {B : Nat}

/-- What a change of the document's forest leaves alone. -/
structure FrR (A : Nat) (k e k' e' : Sl) (h h' : Hp) : Prop where
  size : h.size ≤ h'.size
  blk : ∀ c, c < h.size → c ≠ A → nb k c → nb e c → h'.blk c = h.blk c ∧ nb k' c ∧ nb e' c

theorem Fr.frR {h' : Hp} (f : Fr h.size h h') : FrR A k e k e h h' := ⟨f.size, fun c hc _ h1 h2 => ⟨f.blk c hc, h1, h2⟩⟩

theorem rSet_spec (d : RF h A n L key k e B) (x v : Int) (K : Int → Hp → Prop) (hbad : ¬ rng n x → K 3 h) (hok : ∀ (u : Nat) h', x = u → u < n → RF h' A n L (keyS key u v) k e B → FrR A k e k e h h' → K 0 h') : g_ref12_Forest_Set (some ⟨A, 0, none⟩) x v h K := by
  unfold g_ref12_Forest_Set
  refine rValid d _ (cnd_f rfl (rHas d x _ fun c1 e1 => cnd_of (fun c => hbad fun q => by rw [e1.2 q] at c; cases c) fun c => ?_))
  have hx := e1.1 (by simpa using c)
  unfold rng at hx
  obtain ⟨u, rfl⟩ : ∃ u : Nat, x = u := ⟨x.toNat, by omega⟩
  have hu : u < n := by omega
  obtain ⟨KL, l1, l2, l3⟩ := d.kl
  have kn := d.kn
  refine d.k1 (K := fun s6 => ix s6.a s6.n (u : Int) fun a7 => stc h ((a7.add (Int.toNat (u : Int) * 1)).add 0) (.int .i64 v) fun h8 => K 0 h8) (ix_st1 l1 (by omega) (by omega) rfl fun h' z' l' k' => hok u h' rfl hu ⟨(k' A fun x hx => (d.n1 x hx)).trans d.ha, by have := d.la; omega, d.lB, ⟨_, l', by rw [List.length_set]; exact l2, fun w hw => ?_⟩, d.el.keep (by omega) fun x hx => k' _ fun y hy => (d.n3 y hy x hx).symm, d.n1, d.n2, d.n3⟩ ⟨by omega, fun c _ _ hc he => ⟨k' c fun x hx => hc x hx, hc, he⟩⟩)
  rw [Int.toNat_natCast, set_getD (by omega)]
  unfold keyS
  by_cases q : w = u
  · rw [if_pos q, if_pos q]
  · rw [if_neg q, if_neg q, l3 w hw]

theorem rLink_spec (d : RF h A n L key k e B) (rg : RG L n) (x y : Int) (K : Int → Hp → Prop) (hK : ∀ r h' L' e', RF h' A n L' key k e' B → FrR A k e k e' h h' → lkI L n x y r L' → K r h') : g_ref12_Forest_Link (some ⟨A, 0, none⟩) x y h K := by
  have hL := rg.hL; have en := d.en
  unfold g_ref12_Forest_Link
  have same : FrR A k e k e h h := (Fr.refl _ _).frR
  refine rValid d _ (cnd_f rfl (rHas d x _ fun c1 e1 => cnd_of (fun c => hK _ h L e d same (.inl ⟨rfl, rfl, fun q => ?_⟩)) fun c => rHas d y _ fun c2 e2 => cnd_of (fun c' => hK _ h L e d same (.inl ⟨rfl, rfl, fun q => ?_⟩)) fun c' => ?_))
  · rw [e1.2 q.1] at c; cases c
  · rw [e2.2 q.2] at c'; cases c'
  have hx := e1.1 (by simpa using c)
  have hy := e2.1 (by simpa using c')
  refine cnd_of (fun c3 => hK _ h L e d same (.inr (.inl ⟨rfl, rfl, hx, by simpa using c3⟩))) fun c3 => ?_
  simp only [beq_eq_false_iff_ne, ne_eq] at c3
  unfold rng at hx hy
  obtain ⟨u, rfl⟩ : ∃ u : Nat, x = u := ⟨x.toNat, by omega⟩
  obtain ⟨v, rfl⟩ : ∃ u : Nat, y = u := ⟨y.toNat, by omega⟩
  have hu : u < n := by omega
  have hv : v < n := by omega
  refine rConn_spec d rg _ _ _ fun c4 h8 f8 e8 => ?_
  have e8' : c4 = true ↔ Cn (eL L) u v := e8.trans ⟨fun ⟨u', v', h1, h2, _, _, g⟩ => by
    obtain rfl : u = u' := by omega
    obtain rfl : v = v' := by omega
    exact g, fun g => ⟨u, v, rfl, rfl, hu, hv, g⟩⟩
  have d8 := d.fr f8
  refine cnd_of (fun c5 => hK _ h8 L e d8 f8.frR (.inr (.inr ⟨u, v, rfl, rfl, hu, hv, by omega, .inl ⟨rfl, rfl, e8'.1 c5⟩⟩))) fun c5 => ?_
  have hno : ¬ Cn (eL L) u v := fun g => by rw [e8'.2 g] at c5; cases c5
  refine d8.e2 (K := fun s10 => alo h8 [.int .i64 (u : Int), .int .i64 (v : Int)] fun a11 h12 => app 2 16 [.int .i64 0, .int .i64 0] ⟨s10.a, s10.n, s10.c⟩ ⟨(some a11), 1, 1⟩ h12 _) (alo_of fun h12 z12 b12 k12 => ?_)
  have d12 := d8.fr (⟨by omega, k12⟩ : Fr h8.size h8 h12)
  have lB8 := d8.la; have lB := d8.lB
  refine app_lst (z := 2) d12.el.eta (by omega) (news := [.int .i64 (u : Int), .int .i64 (v : Int)]) (by rw [seg_row (row_own b12) (by simp)]; rfl) (by simp [Value.oneCell]) rfl (by simp only; omega) (by simp only; omega) fun s' h14 l14 n14 z14 f14 k14 a14 => ?_
  have nbs : ∀ c, c < h8.size → nb e c → h14.blk c = h8.blk c ∧ nb s' c := fun c hc hnb => ⟨by rw [k14 c (by omega) hnb, k12 c hc], fun x hx => by
    rcases a14 with q | q
    · rw [q] at hx; exact hnb x hx
    · rw [q] at hx; cases hx; simp only; omega⟩
  have hA14 := (nbs A lB8 d.n2)
  refine nn_of ?_
  simp only [add_mk, Nat.zero_add, Nat.add_zero]
  refine stc_of (hA14.1.trans d8.ha) (by simp) fun h16 z16 b16 k16 => ?_
  obtain ⟨KL, l1, l2, l3⟩ := d8.kl
  have kbl : ∀ x, k.a = some x → h16.blk x.block = h8.blk x.block := fun x hx => by
    rw [k16 _ fun q => d.n1 x hx q.symm]
    exact (nbs _ (d8.kb hx).2 (d.n3 x hx)).1
  refine hK 0 h16 (L ++ [(u, v)]) s' ⟨b16, by omega, lB, ⟨KL, l1.keep (by omega) kbl, l2, l3⟩, ?_, d.n1, hA14.2, fun x hx => (nbs _ (d8.kb hx).2 (d.n3 x hx)).2⟩ ⟨by have := f8.size; omega, fun c hc hcA hck hce => ?_⟩ (.inr (.inr ⟨u, v, rfl, rfl, hu, hv, by omega, .inr ⟨rfl, rfl, hno⟩⟩))
  · rw [flE_snoc, ints_app]
    exact l14.keep (by omega) fun x hx => k16 _ fun q => hA14.2 x hx q.symm
  · have hc8 : c < h8.size := by have := f8.size; omega
    refine ⟨?_, hck, (nbs c hc8 hce).2⟩
    rw [k16 c hcA, (nbs c hc8 hce).1, f8.blk c hc]

theorem rEdge_spec (d : RF h A n L key k e B) (hL : L.length < 2 ^ 40) (u v : Nat) (K : Int → Hp → Prop) (hno : ¬ eL L u v → K (-1) h) (hok : ∀ i, edAt L i u v → K (i : Nat) h) : g_ref12_Forest_edge (some ⟨A, 0, none⟩) (u : Int) (v : Int) h K := by
  have en := d.en
  unfold g_ref12_Forest_edge
  refine for_of L.length (fun i (st : Int × Unit) g => st.1 = (i : Int) ∧ g = h ∧ ∀ j, j < i → ¬ edAt L j u v) ?_ ⟨rfl, rfl, fun j hj => by omega⟩
  rintro i Kr ⟨st, _⟩ g hi ⟨rfl, rfl, hj⟩ hKr
  refine d.e2 (K := fun s5 => cnd (decide ((i : Int) < (Int.ofNat s5.n))) _ _) (cnd_of (fun c => ?_) fun c => hno fun g => ?_)
  · simp only [decide_eq_true_eq, Int.ofNat_eq_natCast] at c
    have hil : i < L.length := by omega
    obtain ⟨⟨p, q⟩, he⟩ : ∃ e, L[i]? = some e := ⟨_, List.getElem?_eq_getElem hil⟩
    refine d.e2 (K := fun s7 => ix s7.a s7.n (i : Int) fun a8 => ldI .i64 g (((a8.add (Int.toNat (i : Int) * 2))).add 0) _) (d.ed he fun a1 s1 c0 c1 => ?_)
    simp only [add_add _ _ _ s1, Int.toNat_natCast, Nat.add_zero]
    refine ldI_of c0 (ldI_of c1 (cnd_of (fun c2 => hok i (.inl ?_)) fun c2 => ?_))
    · simp only [Bool.and_eq_true, beq_iff_eq] at c2
      rw [he]; congr 2 <;> omega
    refine d.e2 (K := fun s7 => ix s7.a s7.n (i : Int) fun a8 => ldI .i64 g (((a8.add (i * 2))).add 0) _) (d.ed he fun a2 s2 c0 c1 => ?_)
    simp only [add_add _ _ _ s2, Int.toNat_natCast, Nat.add_zero]
    refine ldI_of c0 (ldI_of c1 (cnd_of (fun c3 => hok i (.inr ?_)) fun c3 => hKr hil _ _ ⟨wsucc (by omega), rfl, fun j hj' => ?_⟩))
    · simp only [Bool.and_eq_true, beq_iff_eq] at c3
      rw [he]; congr 2 <;> omega
    · by_cases ej : j = i
      · subst ej
        rintro (g | g) <;> rw [he] at g <;> simp only [Option.some.injEq, Prod.mk.injEq] at g <;> obtain ⟨rfl, rfl⟩ := g
        · simp at c2
        · simp at c3
      · exact hj j (by omega)
  · simp only [decide_eq_false_iff_not, Int.ofNat_eq_natCast] at c
    obtain ⟨j, hje⟩ := eL_edAt.1 g
    have : j < L.length := by rcases hje with g | g <;> exact (List.getElem?_eq_some_iff.1 g).1
    exact hj j (by omega) hje

/-- The first i edges, without one. -/
def wout (L : Es) (a i : Nat) : Es := if i ≤ a then L.take i else (L.take i).eraseIdx a
theorem wout_succ {L : Es} {a i : Nat} {x : Nat × Nat} (h : L[i]? = some x) : wout L a (i + 1) = if i = a then wout L a i else wout L a i ++ [x] := by
  have hil := (List.getElem?_eq_some_iff.1 h).1
  have tl : (L.take i).length = i := by rw [List.length_take]; omega
  unfold wout
  rw [take_snoc h]
  by_cases e : i = a
  · subst e
    rw [if_neg (by omega), if_pos (Nat.le_refl _), if_pos rfl, List.eraseIdx_append_of_length_le (by omega), tl, Nat.sub_self]
    simp
  · rw [if_neg e]
    by_cases g : i ≤ a
    · rw [if_pos (by omega), if_pos g]
    · rw [if_neg (by omega), if_neg g, List.eraseIdx_append_of_lt_length (by omega)]

theorem rCut_spec (d : RF h A n L key k e B) (rg : RG L n) (x y : Int) (K : Int → Hp → Prop) (hbad : ¬ (rng n x ∧ rng n y) → K 3 h) (hno : ∀ u v : Nat, x = u → y = v → u < n → v < n → ¬ eL L u v → K 5 h)
    (hok : ∀ (u v i : Nat) h' e', x = u → y = v → u < n → v < n → edAt L i u v → RF h' A n (L.eraseIdx i) key k e' B → FrR A k e k e' h h' → K 0 h') : g_ref12_Forest_Cut (some ⟨A, 0, none⟩) x y h K := by
  have hL := rg.hL; have en := d.en
  unfold g_ref12_Forest_Cut
  refine rValid d _ (cnd_f rfl (rHas d x _ fun c1 e1 => cnd_of (fun c => hbad fun q => ?_) fun c => rHas d y _ fun c2 e2 => cnd_of (fun c' => hbad fun q => ?_) fun c' => ?_))
  · rw [e1.2 q.1] at c; cases c
  · rw [e2.2 q.2] at c'; cases c'
  have hx := e1.1 (by simpa using c)
  have hy := e2.1 (by simpa using c')
  unfold rng at hx hy
  obtain ⟨u, rfl⟩ : ∃ u : Nat, x = u := ⟨x.toNat, by omega⟩
  obtain ⟨v, rfl⟩ : ∃ u : Nat, y = u := ⟨y.toNat, by omega⟩
  refine rEdge_spec d hL u v _ (fun q => cnd_t rfl (hno u v rfl rfl (by omega) (by omega) q)) fun i hi => cnd_f (by simp only [decide_eq_false_iff_not]; omega) ?_
  have hiL : i < L.length := by rcases hi with g | g <;> exact (List.getElem?_eq_some_iff.1 g).1
  have lB := d.lB; have la := d.la
  refine jn_of (fun (st : Sl × Unit) g => Fr h.size h g ∧ Lst g 2 st.1 (ints (flE (L.eraseIdx i))) h.size) ?_ fun K11 hK11 => ?_
  · rintro ⟨s, _⟩ g ⟨fg, ls⟩
    simp only at ls
    have dg := d.fr fg
    refine nn_of ?_
    simp only [add_mk, Nat.zero_add, Nat.add_zero]
    have nbs : ∀ c, c < h.size → nb s c := fun c hc x hx => by have := (ls.blk_lt hx).1; omega
    refine stc_of dg.ha (by simp) fun h13 z13 b13 k13 => ?_
    obtain ⟨KL, l1, l2, l3⟩ := dg.kl
    refine hok u v i h13 s rfl rfl (by omega) (by omega) hi ⟨b13, by have := dg.la; omega, lB, ⟨KL, l1.keep (by omega) fun x hx => k13 _ fun q => d.n1 x hx q.symm, l2, l3⟩, ?_, d.n1, nbs A la, fun x hx => nbs _ (d.kb hx).2⟩ ⟨by have := fg.size; omega, fun c hc hcA hck hce => ⟨?_, hck, nbs c hc⟩⟩
    · exact (ls.keep (by omega) fun x hx => k13 _ fun q => nbs A la x hx q.symm).le (by omega)
    · rw [k13 c hcA, fg.blk c hc]
  refine for_of L.length (fun j (st : Sl × Int × Unit) g => st.2.1 = (j : Int) ∧ Fr h.size h g ∧ Lst g 2 st.1 (ints (flE (wout L i j))) h.size) ?_ ⟨rfl, Fr.refl _ _, by
    have : wout L i 0 = [] := by simp [wout]
    rw [this]; exact Lst.nil _ _ _⟩
  rintro j Kr ⟨s, st, _⟩ g hj ⟨rfl, fg, ls⟩ hKr
  simp only at ls
  have dg := d.fr fg
  refine dg.e2 (K := fun s18 => cnd (decide ((j : Int) < (Int.ofNat s18.n))) _ _) (cnd_of (fun c3 => ?_) fun c3 => ?_)
  rotate_left
  · simp only [decide_eq_false_iff_not, Int.ofNat_eq_natCast] at c3
    obtain rfl : j = L.length := by omega
    have : wout L i L.length = L.eraseIdx i := by unfold wout; rw [if_neg (by omega), List.take_length]
    rw [this] at ls
    exact hK11 _ _ ⟨fg, ls⟩
  simp only [decide_eq_true_eq, Int.ofNat_eq_natCast] at c3
  have hjl : j < L.length := by omega
  obtain ⟨⟨p, q⟩, he⟩ : ∃ e, L[j]? = some e := ⟨_, List.getElem?_eq_getElem hjl⟩
  have wk1 := wsucc (k := j) (by omega)
  refine cnd_of (fun c4 => ?_) fun c4 => hKr hjl _ _ ⟨wk1, fg, ?_⟩
  · simp only [bne_iff_ne, ne_eq] at c4
    refine dg.e2 (K := fun s7 => ix s7.a s7.n (j : Int) fun a8 => ldI .i64 g (((a8.add (Int.toNat (j : Int) * 2))).add 0) _) (dg.ed he fun a1 s1 c0 c1 => ?_)
    simp only [add_add _ _ _ s1, Int.toNat_natCast, Nat.add_zero]
    refine ldI_of c0 (ldI_of c1 (alo_of fun g3 z3 b3 k3 => ?_))
    have fr3 : Fr g.size g g3 := ⟨by omega, k3⟩
    have hzg := fg.size
    have lsn := ls.1
    rw [ints_len, flE_len] at lsn
    have wl : (wout L i j).length ≤ L.length := by
      unfold wout
      split
      · rw [List.length_take]; omega
      · exact Nat.le_trans (List.length_eraseIdx_le ..) (by rw [List.length_take]; omega)
    refine app_lst (z := 2) (ls.fr fr3).eta (by omega) (news := [.int .i64 (p : Int), .int .i64 (q : Int)]) (by rw [seg_row (row_own b3) (by simp)]; rfl) (by simp [Value.oneCell]) rfl (by simp only; omega) (by simp only; omega) fun s' g4 l4 n4 z4 f4 k4 a4 => ?_
    refine hKr hjl _ _ ⟨wk1, ⟨by omega, fun c hc => by rw [f4.blk c hc, k3 c (by omega), fg.blk c hc]⟩, ?_⟩
    rw [wout_succ he, if_neg (by omega), flE_snoc, ints_app]; exact l4
  · simp only [bne_eq_false_iff_eq] at c4
    rw [wout_succ he, if_pos (by omega)]; exact ls

theorem rCopy_spec (d : RF h A n L key k e B) (rg : RG L n) (K : Option Addr → Hp → Prop) (hK : ∀ h' A' k' e', RF h' A' n L key k' e' h.size → Fr h.size h h' → K (some ⟨A', 0, none⟩) h') : g_ref12_Forest_Copy (some ⟨A, 0, none⟩) h K := by
  have hL := rg.hL; have hn := rg.hn; have en := d.en; have kn := d.kn
  obtain ⟨KL, l1, l2, l3⟩ := d.kl
  unfold g_ref12_Forest_Copy
  refine rValid d _ (cnd_f rfl (alo_of fun h4 z4 b4 k4 => nn_of ?_))
  have f4 : Fr h.size h h4 := ⟨by omega, k4⟩
  have d4 := d.fr f4
  simp only [add_mk, Nat.zero_add]
  refine ldS_of (p := none) (n := 0) (c := 0) (by rw [cell_own b4]; rfl) (d4.k1 (K := fun s8 => app 1 8 [.int .i64 0] ⟨none, 0, 0⟩ ⟨s8.a, s8.n, s8.c⟩ h4 _) ?_)
  have l14 := l1.keep (h' := h4) (by omega) fun x hx => k4 _ (l1.blk_lt hx).2.1
  refine app_lst (Lst.nil h4 1 h4.size) (Nat.le_refl _) l14.seg (ints_one _) rfl (by simp only; omega) (by simp only; omega) fun s9 h10 l10 n10 z10 f10 k10 a10 => nn_of ?_
  simp only [List.nil_append] at l10
  have f10' : Fr h4.size h4 h10 := f10
  simp only [add_mk, Nat.zero_add, Nat.add_zero]
  refine stc_of ((f10.blk _ (by omega)).trans b4) (by simp) fun h12 z12 b12 k12 => nn_of ?_
  have f12 : Fr h.size h h12 := ⟨by omega, fun c hc => by rw [k12 c (by omega), f10.blk c (by omega), k4 c hc]⟩
  have d12 := d.fr f12
  simp only [add_mk, Nat.zero_add, List.set_cons_zero, List.set_cons_succ] at b12 ⊢
  refine ldS_of (p := none) (n := 0) (c := 0) (by rw [cell_own b12]; rfl) (d12.e2 (K := fun s16 => app 2 16 [.int .i64 0, .int .i64 0] ⟨none, 0, 0⟩ ⟨s16.a, s16.n, s16.c⟩ h12 _) ?_)
  refine app_lst (Lst.nil h12 2 h12.size) (Nat.le_refl _) d12.el.seg (ints_one _) rfl (by simp only; omega) (by simp only; omega) fun s17 h18 l18 n18 z18 f18 k18 a18 => nn_of ?_
  simp only [List.nil_append] at l18
  simp only [add_mk, Nat.zero_add, Nat.add_zero]
  refine stc_of ((f18.blk _ (by omega)).trans b12) (by simp) fun h20 z20 b20 k20 => ?_
  simp only [List.set_cons_zero, List.set_cons_succ] at b20
  have kk : ∀ x, s9.a = some x → h4.size ≤ x.block ∧ x.block < h10.size := fun x hx => ⟨(l10.blk_lt hx).1, (l10.blk_lt hx).2.1⟩
  have ee : ∀ x, s17.a = some x → h12.size ≤ x.block := fun x hx => (l18.blk_lt hx).1
  refine hK h20 h.size s9 s17 ⟨b20, by omega, Nat.le_refl _, ⟨KL, ?_, l2, l3⟩, ?_, fun x hx => ?_, fun x hx => ?_, fun x hx y hy => ?_⟩ ⟨by omega, fun c hc => ?_⟩
  · refine (l10.le (by omega)).keep (by omega) fun x hx => ?_
    have := kk x hx
    rw [k20 _ (by omega), f18.blk _ (by omega), k12 _ (by omega)]
  · refine (l18.le (by omega)).keep (by omega) fun x hx => ?_
    have := ee x hx
    rw [k20 _ (by omega)]
  · have := kk x hx; omega
  · have := ee x hx; omega
  · have := kk x hx; have := ee y hy; omega
  · rw [k20 c (by omega), f18.blk c (by omega), f12.blk c hc]
end

theorem rNew_spec (n : Int) (h : Hp) (K : Option Addr → Int → Hp → Prop) (hbad : ¬ (0 ≤ n ∧ n ≤ 65536) → K none 2 h) (hok : ∀ m : Nat, n = m → m ≤ 65536 → ∀ h' A k e, RF h' A m [] (fun _ => 0) k e h.size → Fr h.size h h' → K (some ⟨A, 0, none⟩) 0 h') : g_ref12_New n h K := by
  unfold g_ref12_New
  refine cnd_of (fun c => hbad fun q => ?_) fun c1 => cnd_of (fun c => hbad fun q => ?_) fun c2 => ?_
  all_goals simp only [decide_eq_true_eq, decide_eq_false_iff_not] at *
  · omega
  · omega
  obtain ⟨m, rfl⟩ : ∃ m : Nat, n = m := ⟨n.toNat, by omega⟩
  refine mks_of (by omega) (by omega) (by omega) fun h2 z2 b2 k2 => alo_of fun h4 z4 b4 k4 => ?_
  simp only [Int.toNat_natCast] at b2 b4
  refine hok m rfl (by omega) h4 h2.size ⟨some ⟨h.size, 0, none⟩, m, m⟩ ⟨none, 0, 0⟩ ⟨b4, by omega, by omega, ⟨List.replicate m 0, ⟨by simp [ints_len], Nat.le_refl _, .inr ⟨h.size, [], rfl, Nat.le_refl _, by omega, ?_, by simp [ints_len]⟩⟩, by simp, fun v hv => ?_⟩, Lst.nil _ _ _, fun x hx => ?_, fun x hx => (by cases hx), fun x hx y hy => by cases hy⟩ ⟨by omega, fun c hc => by rw [k4 c (by omega), k2 c hc]⟩
  · rw [k4 _ (by omega), b2, List.append_nil, zrow12]
  · simp [List.getD, hv]
  · cases hx; simp only; omega

end Go.Hx
