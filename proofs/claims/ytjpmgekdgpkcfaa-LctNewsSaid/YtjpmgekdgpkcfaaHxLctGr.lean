/- Link-cut forests: a forest grown by links; small laws of ways and meetings. No condition. -/
import Derived.Test.YtjpmgekdgpkcfaaHxLctWk
namespace Go.Hx
set_option linter.unusedSimpArgs false
set_option linter.unusedVariables false

theorem small12_spec (x : Int) (s : Sl) (h : Hp) (K : Bool → Hp → Prop) (hK : ∀ b, (b = true ↔ (0 ≤ x ∧ x ≤ 120) ∧ s.n ≤ 120) → K b h) : g_law12_small x s h K := by
  unfold g_law12_small
  refine cnd_of (fun c => cnd_of (fun c2 => hK _ ?_) fun c2 => hK _ ?_) fun c => hK _ ?_
  all_goals simp only [decide_eq_true_eq, decide_eq_false_iff_not, Int.ofNat_eq_natCast] at *
  · omega
  · exact ⟨fun q => (by cases q), fun q => by omega⟩
  · exact ⟨fun q => (by cases q), fun q => by omega⟩

/-- The edges, laid flat. -/
def flE (L : Es) : List Int := L.flatMap fun e => [(e.1 : Int), (e.2 : Int)]
theorem flE_len (L : Es) : (flE L).length = L.length * 2 := by
  induction L with
  | nil => rfl
  | cons e L ih => simp only [flE, List.flatMap_cons, List.length_append, List.length_cons, List.length_nil] at ih ⊢; omega
theorem flE_snoc (L : Es) (u v : Nat) : flE (L ++ [(u, v)]) = flE L ++ [(u : Int), (v : Int)] := by simp [flE]
theorem flE_get {L : Es} {i : Nat} {u v : Nat} (h : L[i]? = some (u, v)) : (flE L).getD (i * 2) 0 = (u : Int) ∧ (flE L).getD (i * 2 + 1) 0 = (v : Int) := by
  induction L generalizing i with
  | nil => simp at h
  | cons e L ih =>
    cases i with
    | zero => simp at h; subst h; exact ⟨rfl, rfl⟩
    | succ i =>
      simp only [List.getElem?_cons_succ] at h
      obtain ⟨h1, h2⟩ := ih h
      have e1 : (i + 1) * 2 = i * 2 + 1 + 1 := by omega
      have e2 : (i + 1) * 2 + 1 = i * 2 + 1 + 1 + 1 := by omega
      rw [e1]
      show (((e.1 : Int)) :: ((e.2 : Int)) :: flE L).getD _ 0 = _ ∧ (((e.1 : Int)) :: ((e.2 : Int)) :: flE L).getD _ 0 = _
      simp only [List.getD_cons_succ]
      exact ⟨h1, h2⟩

theorem Lst.keepB {a b : Nat} {h h' : Hp} {z : Nat} {s : Sl} {cs : List Value} {B : Nat} (l : Lst h z s cs B) (f : FrB a b h h') (na : nb s a) (nbb : nb s b) : Lst h' z s cs B :=
  l.keep f.size fun x hx => f.blk _ (l.blk_lt hx).2.1 (fun e => na x hx e.symm) fun e => nbb x hx e.symm

theorem grown_spec {h : Hp} {l : Sl} {M : List Int} (n : Nat) (hn : n ≤ 120) (hM : Rd h 2 l (ints M)) (hl : l.n ≤ 120) (P : Nat → Es → Prop) (h0 : P 0 [])
    (hs : ∀ k L r L', k < l.n → P k L → FO (eL L) → UQ L → lkI L n (M.getD (k * 2) 0) (M.getD (k * 2 + 1) 0) r L' → P (k + 1) L') (K : Option Addr → Sl → Hp → Prop)
    (hK : ∀ h' a b L s, LT h' a b n L (fun _ => 0) → Fr h.size h h' → h.size ≤ a → h.size ≤ b → Lst h' 2 s (ints (flE L)) h.size → nb s a → nb s b → L.length ≤ l.n → P l.n L → K (some ⟨a, 0, none⟩) s h') : g_law12_grown (n : Int) l h K := by
  unfold g_law12_grown
  refine T_new n h _ (fun q => absurd ⟨by omega, by omega⟩ q) fun m hm _ h3 a b d3 f3 ha hb => ?_
  obtain rfl : n = m := by omega
  refine cnd_f rfl ?_
  refine jn_of (fun (st : Sl × Unit) g => ∃ L, LT g a b n L (fun _ => 0) ∧ Fr h.size h g ∧ Lst g 2 st.1 (ints (flE L)) h.size ∧ nb st.1 a ∧ nb st.1 b ∧ L.length ≤ l.n ∧ P l.n L) ?_ fun K6 hK6 => ?_
  · rintro ⟨s, _⟩ g ⟨L, d, f, ls, n1, n2, hL, hP⟩
    exact hK g a b L s d f ha hb ls n1 n2 hL hP
  refine for_of l.n (fun k (st : Sl × Int × Unit) g => st.2.1 = (k : Int) ∧ ∃ L, LT g a b n L (fun _ => 0) ∧ Fr h.size h g ∧ Lst g 2 st.1 (ints (flE L)) h.size ∧ nb st.1 a ∧ nb st.1 b ∧ L.length ≤ k ∧ P k L) ?_ ⟨rfl, [], d3, f3, Lst.nil _ _ _, fun x hx => (by cases hx), fun x hx => (by cases hx), Nat.le_refl _, h0⟩
  rintro k Kr ⟨s, st, _⟩ g hk ⟨rfl, L, d, f, ls, n1, n2, hL, hP⟩ hKr
  simp only at ls n1 n2
  refine cnd_of (fun c => ?_) fun c => ?_
  rotate_left
  · simp only [decide_eq_false_iff_not, Int.ofNat_eq_natCast] at c
    obtain rfl : k = l.n := by omega
    exact hK6 _ _ ⟨L, d, f, ls, n1, n2, hL, hP⟩
  simp only [decide_eq_true_eq, Int.ofNat_eq_natCast] at c
  have hkl : k < l.n := by omega
  have rd : ∀ g', Fr h.size h g' → ∀ (X : Addr → Prop), (∀ a : Addr, (∀ m, m < 2 → g'.cell (a.add (k * 2 + m)) = some (.int .i64 (M.getD (k * 2 + m) 0))) → a.spot = none → X a) → ix l.a l.n (k : Int) X := fun g' fg' X hX => ix_rd (hM.fr fg') (by omega) (by omega) (by omega) fun a ha hc => hX a (fun m hm => by simpa using hc m hm) ha
  refine rd g f _ fun a1 c1 s1 => ⟨by omega, by omega, ?_⟩
  simp only [add_add _ _ _ s1, Int.toNat_natCast]
  refine ldI_of (c1 0 (by omega)) (rd g f _ fun a2 c2 s2 => ⟨by omega, by omega, ?_⟩)
  simp only [add_add _ _ _ s2, Int.toNat_natCast]
  refine ldI_of (c2 1 (by omega)) ?_
  simp only [Nat.add_zero]
  refine T_link d (by omega) _ _ _ fun r g2 L' d2 f2 lk => ?_
  have hP' := hs k L r L' hkl hP d.fo d.uq lk
  have f2' := f.thenB f2 (Nat.le_refl _) ha hb
  have ls2 := ls.keepB f2 n1 n2
  have kw : w64 ((k : Int) + 1) = ((k + 1 : Nat) : Int) := by rw [w64, w64_eq (by omega) (by omega)]; omega
  simp only [kw]
  refine cnd_of (fun q => ?_) fun q => ?_
  · simp only [beq_iff_eq] at q
    obtain ⟨u, v, hx, hy, hu, hv, huv, hL'⟩ : ∃ u v : Nat, M.getD (k * 2) 0 = u ∧ M.getD (k * 2 + 1) 0 = v ∧ u < n ∧ v < n ∧ u ≠ v ∧ L' = L ++ [(u, v)] := by
      rcases lk with ⟨e, _⟩ | ⟨e, _⟩ | ⟨u, v, h1, h2, h3, h4, h5, ⟨e, _⟩ | ⟨_, e, _⟩⟩
      · omega
      · omega
      · omega
      · exact ⟨u, v, h1, h2, h3, h4, h5, e⟩
    refine rd g2 f2' _ fun a3 c3 s3 => ?_
    simp only [add_add _ _ _ s3, Int.toNat_natCast]
    refine ldI_of (c3 0 (by omega)) (ldI_of (c3 1 (by omega)) (alo_of fun g3 z3 b3 k3 => ?_))
    simp only [Nat.add_zero, hx, hy] at b3 ⊢
    have hz2 := f2'.size
    have fr3 : Fr g2.size g2 g3 := ⟨by omega, k3⟩
    have lsn := ls.1
    rw [ints_len, flE_len] at lsn
    refine app_lst (z := 2) (ls2.fr fr3).eta (by omega) (news := [.int .i64 (u : Int), .int .i64 (v : Int)]) (by rw [seg_row (row_own b3) (by simp)]; rfl) (by simp [Value.oneCell]) rfl (by simp only; omega) (by simp only; omega) fun s' g4 l4 n4 z4 f4 k4 a4 => ?_
    have nbs : ∀ c, c < g2.size → nb s c → g4.blk c = g2.blk c ∧ nb s' c := fun c hc hnb => ⟨by rw [k4 c (by omega) hnb, k3 c hc], fun x hx => by
      rcases a4 with e | e
      · rw [e] at hx; exact hnb x hx
      · rw [e] at hx; cases hx; simp only; omega⟩
    obtain ⟨la, lb, _⟩ := d2.lt
    refine hKr hkl _ _ ⟨rfl, L', d2.keep (by omega) (nbs a la n1).1 (nbs b lb n2).1, ⟨by omega, fun c hc => ?_⟩, ?_, (nbs a la n1).2, (nbs b lb n2).2, ?_, hP'⟩
    · rw [f4.blk c hc, k3 c (by omega), f2'.blk c hc]
    · rw [hL', flE_snoc, ints_app]; exact l4
    · rw [hL']; simp; omega
  · have hL' : L' = L := by
      simp only [beq_eq_false_iff_ne] at q
      rcases lk with ⟨_, e, _⟩ | ⟨_, e, _⟩ | ⟨u, v, h1, h2, h3, h4, h5, ⟨_, e, _⟩ | ⟨e, _⟩⟩
      · exact e
      · exact e
      · exact e
      · exact absurd e q
    subst hL'
    exact hKr hkl _ _ ⟨rfl, L', d2, f2', ls2, n1, n2, by omega, hP'⟩

/-! ### Meetings, distances -/

theorem cnI_tr {E : Nat → Nat → Prop} {n : Nat} {x y t : Int} (h1 : cnI E n x y) (h2 : cnI E n y t) : cnI E n x t := by
  obtain ⟨u, v, a1, a2, a3, a4, a5⟩ := h1
  obtain ⟨u', v', b1, b2, b3, b4, b5⟩ := h2
  obtain rfl : v = u' := by omega
  exact ⟨u, v', a1, b2, a3, b4, a5.trans b5⟩
theorem cnI_sym {E : Nat → Nat → Prop} {n : Nat} {x y : Int} (h1 : cnI E n x y) : cnI E n y x := by
  obtain ⟨u, v, a1, a2, a3, a4, a5⟩ := h1
  exact ⟨v, u, a2, a1, a4, a3, a5.symm⟩

theorem meI_cn {E : Nat → Nat → Prop} {n : Nat} {x y t m : Int} {c : Bool} (d : meI E n x y t m c) : c = true ↔ cnI E n x y ∧ cnI E n x t := by
  rcases d with ⟨_, rfl, h⟩ | ⟨u, v, w, z, h1, h2, h3, h4, h5, h6, ⟨p, q, r, s1, s2, s3, _⟩, _, rfl⟩
  · exact ⟨fun q => (by cases q), fun q => absurd q h⟩
  · exact ⟨fun _ => ⟨⟨u, v, h1, h2, h4, h5, s1.Cn⟩, u, w, h1, h3, h4, h6, s3.Cn⟩, fun _ => rfl⟩

/-- Two answers, if the three are the same. -/
theorem meI_eq {E : Nat → Nat → Prop} {n : Nat} {x y t x' y' t' m m' : Int} {c c' : Bool} (d : meI E n x y t m c) (d' : meI E n x' y' t' m' c') (h1 : cnI E n x y ∧ cnI E n x t ↔ cnI E n x' y' ∧ cnI E n x' t')
    (h2 : ∀ u v w z z' u' v' w' : Nat, x = u → y = v → t = w → x' = u' → y' = v' → t' = w' → Mt3 E u v w z → Mt3 E u' v' w' z' → z = z') : m = m' ∧ c = c' := by
  have e : c = c' := by
    rw [Bool.eq_iff_iff, meI_cn d, meI_cn d', h1]
  subst e
  rcases d with ⟨hm, hc, _⟩ | ⟨u, v, w, z, a1, a2, a3, _, _, _, mt, hm, hc⟩
  · rcases d' with ⟨hm', _, _⟩ | ⟨_, _, _, _, _, _, _, _, _, _, _, _, hc'⟩
    · exact ⟨by omega, rfl⟩
    · rw [hc] at hc'; cases hc'
  · rcases d' with ⟨_, hc', _⟩ | ⟨u', v', w', z', b1, b2, b3, _, _, _, mt', hm', _⟩
    · rw [hc] at hc'; cases hc'
    · have := h2 u v w z z' u' v' w' a1 a2 a3 b1 b2 b3 mt mt'
      exact ⟨by omega, rfl⟩

theorem dist_split {E : Nat → Nat → Prop} (d : FO E) {n u v z : Nat} {p p1 p2 p3 : List Nat} (s : SP E u v p) (hz : z ∈ p) (hu : u < n) (hv : v < n) (hzn : z < n) {x y m : Int} (hx : x = u) (hy : y = v) (hm : m = z) (h1 : pthI E n x m p1) (h2 : pthI E n m y p2) (h3 : pthI E n x y p3) :
    ((p1.length : Nat) : Int) - 1 + ((p2.length : Nat) - 1) = (p3.length : Nat) - 1 := by
  obtain ⟨xs, ys, rfl⟩ := List.append_of_mem hz
  obtain ⟨s1, s2⟩ := s.cut
  have e1 := h1.uniq d (.inr ⟨u, z, hx, hm, hu, hzn, s1⟩)
  have e2 := h2.uniq d (.inr ⟨z, v, hm, hy, hzn, hv, s2⟩)
  have e3 := h3.uniq d (.inr ⟨u, v, hx, hy, hu, hv, s⟩)
  rw [e1, e2, e3]
  simp only [List.length_append, List.length_cons, List.length_nil]
  omega

theorem pthI.le {E : Nat → Nat → Prop} {n : Nat} {x y : Int} {p : List Nat} (bd : ∀ u v, Cn E u v → u < n → v < n) (h : pthI E n x y p) : p.length ≤ n ∧ ∀ z, z ∈ p → z < n := by
  rcases h with ⟨rfl, _⟩ | ⟨u, v, _, _, hu, _, s⟩
  · exact ⟨by simp, fun z hz => by cases hz⟩
  · have : ∀ z, z ∈ p → z < n := fun z hz => bd _ _ (s.cn hz) hu
    exact ⟨nodup_len n p s.nd this, this⟩

end Go.Hx
