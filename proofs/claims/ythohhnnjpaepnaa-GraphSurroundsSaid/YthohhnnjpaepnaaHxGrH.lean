/- The edges around a vertex of a graph, over the abstract heap. No condition. -/
import Derived.Test.YthohhnnjpaepnaaHxGrC
import Derived.Test.YthohhnnjpaepnaaHxDsuH
namespace Go.Hx
set_option linter.unusedSimpArgs false
set_option linter.unusedVariables false

/-- The half-edges of a vertex, in order. -/
def arH (M : List Int) (m v : Nat) : List Nat := (List.range (2 * m)).filter fun j => gt (VX M m) j == v
/-- Pairs of an edge and its other end, laid flat. -/
def fl2 (f g : Nat → Int) (l : List Nat) : List Int := l.flatMap fun j => [f j, g j]
theorem fl2_len (f g : Nat → Int) (l : List Nat) : (fl2 f g l).length = l.length * 2 := by
  induction l with
  | nil => rfl
  | cons x l ih => simp only [fl2, List.flatMap_cons, List.length_append, List.length_cons, List.length_nil] at ih ⊢; omega
theorem fl2_get {f g : Nat → Int} {l : List Nat} {i j : Nat} (h : l[i]? = some j) : (fl2 f g l).getD (i * 2) 0 = f j ∧ (fl2 f g l).getD (i * 2 + 1) 0 = g j := by
  induction l generalizing i with
  | nil => simp at h
  | cons e l ih =>
    cases i with
    | zero => simp at h; subst h; exact ⟨rfl, rfl⟩
    | succ i =>
      simp only [List.getElem?_cons_succ] at h
      obtain ⟨h1, h2⟩ := ih h
      rw [show (i + 1) * 2 = i * 2 + 1 + 1 by omega]
      show (f e :: g e :: fl2 f g l).getD _ 0 = _ ∧ (f e :: g e :: fl2 f g l).getD _ 0 = _
      simp only [List.getD_cons_succ]
      exact ⟨h1, h2⟩
theorem fl2_snoc (f g : Nat → Int) (l : List Nat) (j : Nat) : fl2 f g (l ++ [j]) = fl2 f g l ++ [f j, g j] := by simp [fl2]

def hE (j : Nat) : Int := ((j / 2 : Nat) : Int)
def hV (M : List Int) (j : Nat) : Int := ((VO M j : Nat) : Int)
def flA (M : List Int) (m v : Nat) : List Int := fl2 hE (hV M) (arH M m v)

theorem arH_len (M : List Int) (m v : Nat) : (arH M m v).length = szp (VX M m) v := by
  unfold arH szp cntB; rw [VX_len]

theorem list_getD {l l' : List Int} (h : l.length = l'.length) (hg : ∀ i, i < l.length → l.getD i 0 = l'.getD i 0) : l = l' := by
  refine List.ext_getElem h fun i h1 h2 => ?_
  have := hg i h1
  simpa [List.getD, List.getElem?_eq_getElem h1, List.getElem?_eq_getElem h2] using this

/-- The part of the row of half-edges that belongs to a vertex. -/
theorem row_part {M N : List Int} {m v : Nat} (hN : N.length = 2 * (2 * m)) (hp : ∀ j, j < 2 * m → N.getD (pos (VX M m) j * 2) 0 = ((j / 2 : Nat) : Int) ∧ N.getD (pos (VX M m) j * 2 + 1) 0 = ((VO M j : Nat) : Int)) :
    (N.drop (atp (VX M m) v * 2)).take (szp (VX M m) v * 2) = flA M m v := by
  have hle := atp_le (VX M m) (v + 1)
  rw [atp_succ, VX_len] at hle
  refine list_getD (by rw [List.length_take, List.length_drop, flA, fl2_len, arH_len, hN]; omega) fun i hi => ?_
  rw [List.length_take, List.length_drop, hN] at hi
  have hk : i / 2 < szp (VX M m) v := by omega
  obtain ⟨k, k1, k2, k3, k4⟩ := filt_get (fun j => gt (VX M m) j == v) (2 * m) (i / 2) (by unfold szp at hk; rw [VX_len] at hk; exact hk)
  have hv : gt (VX M m) k = v := by simpa using k2
  have hpos : pos (VX M m) k = atp (VX M m) v + i / 2 := by
    unfold pos; rw [hv, k3]
  obtain ⟨p1, p2⟩ := hp k k1
  obtain ⟨q1, q2⟩ := fl2_get (f := hE) (g := hV M) (show (arH M m v)[i / 2]? = some k from k4)
  have lhs : ((N.drop (atp (VX M m) v * 2)).take (szp (VX M m) v * 2)).getD i 0 = N.getD (atp (VX M m) v * 2 + i) 0 := by
    simp only [List.getD]
    rw [List.getElem?_take_of_lt (by omega), List.getElem?_drop]
  rw [lhs]
  rcases Nat.mod_two_eq_zero_or_one i with e | e
  · rw [show i = i / 2 * 2 by omega]
    unfold flA
    rw [q1, show atp (VX M m) v * 2 + i / 2 * 2 = pos (VX M m) k * 2 by rw [hpos]; omega, p1]; rfl
  · rw [show i = i / 2 * 2 + 1 by omega]
    unfold flA
    rw [q2, show atp (VX M m) v * 2 + (i / 2 * 2 + 1) = pos (VX M m) k * 2 + 1 by rw [hpos]; omega, p2]; rfl

section
variable {h : Hp} {o : GOb} {n m : Nat} {M : List Int}

theorem halves_spec (d : GS h o n m M) (v : Int) (K : Sl → Bool → Hp → Prop) (hbad : ¬ (0 ≤ v ∧ v < (n : Int)) → K ⟨none, 0, 0⟩ false h)
    (hok : ∀ (u : Nat) s, v = u → u < n → Rd h 2 s (ints (flA M m u)) → s.n = (arH M m u).length → (∀ x, s.a = some x → x.block < o.hi) → K s true h) : g_graph_Graph_halves (some ⟨o.a, 0, none⟩) v h K := by
  obtain ⟨nb1, nb2⟩ := d.nb
  unfold g_graph_Graph_halves
  refine gValid_spec d _ (cnd_f rfl (cnd_of (fun c => hbad fun q => ?_) fun c => nn_of ?_))
  · simp only [decide_eq_true_eq] at c; omega
  simp only [decide_eq_false_iff_not] at c
  obtain ⟨u, rfl⟩ : ∃ u : Nat, v = u := ⟨v.toNat, by omega⟩
  simp only [add_mk, Nat.zero_add]
  refine ldI_of (by rw [d.cell]; rfl) (cnd_of (fun c2 => hbad fun q => ?_) fun c2 => nn_of ?_)
  · simp only [decide_eq_true_eq] at c2; omega
  simp only [decide_eq_false_iff_not] at c2
  have hu : u < n := by omega
  obtain ⟨F, f1, f2, f3⟩ := d.fr'
  obtain ⟨N, n1, n2, n3⟩ := d.ed'
  have hix := d.ix'; have hhi := d.hi
  have e0 : w64 ((u : Int) + 1) = ((u + 1 : Nat) : Int) := by rw [w64, w64s (by omega)]
  simp only [add_mk, Nat.zero_add, e0]
  refine ldS_of (by rw [d.cell]; rfl) (nn_of ?_)
  simp only [add_mk, Nat.zero_add]
  refine ldS_of (by rw [d.cell]; rfl) (ix_of (by omega) (by simp only; omega) ?_)
  simp only [add_mk, Nat.zero_add, Int.toNat_natCast, Nat.mul_one]
  refine ldI_of (nats_cell f2 f1 (by omega)) (nn_of ?_)
  simp only [add_mk, Nat.zero_add]
  refine ldS_of (by rw [d.cell]; rfl) (ix_of (by omega) (by simp only; omega) ?_)
  simp only [add_mk, Nat.zero_add, Int.toNat_natCast, Nat.mul_one]
  refine ldI_of (nats_cell f2 f1 (by omega)) ?_
  rw [f3 u (by omega), f3 (u + 1) (by omega), atp_succ]
  have hle := atp_le (VX M m) (u + 1)
  rw [atp_succ, VX_len] at hle
  refine ⟨by omega, by omega, by simp only [Int.ofNat_eq_natCast]; omega, Int.le_refl _, ?_⟩
  have hn : Int.toNat (((atp (VX M m) u + szp (VX M m) u : Nat) : Int) - ((atp (VX M m) u : Nat) : Int)) = szp (VX M m) u := by omega
  rw [hn]
  have rp := row_part (v := u) n1 n3
  refine hok u _ rfl hu ⟨?_, fun x hx _ => ?_⟩ (by simp only [arH_len]) fun x hx => ?_
  · simp only
    by_cases hz : szp (VX M m) u = 0
    · have : flA M m u = [] := List.eq_nil_of_length_eq_zero (by rw [flA, fl2_len, arH_len]; omega)
      rw [hz, Nat.zero_mul, seg_zero, this]; rfl
    · rw [if_neg (by simp only [Int.ofNat_eq_natCast]; omega)]
      simp only [Option.map_some, add_mk, Nat.zero_add]
      rw [seg_row (row_own n2) (by rw [ints_len]; omega), ← rp]
      simp [ints, List.map_take, List.map_drop]
  all_goals
    simp only at hx
    split at hx
    · cases hx; simp only; omega
    · simp only [Option.map_some, add_mk] at hx; cases hx; simp only; omega

theorem gDegree_spec (d : GS h o n m M) (v : Int) (K : Int → Hp → Prop) (hK : K (if 0 ≤ v ∧ v < (n : Int) then ((arH M m v.toNat).length : Nat) else 0) h) : g_graph_Graph_Degree (some ⟨o.a, 0, none⟩) v h K := by
  unfold g_graph_Graph_Degree
  refine halves_spec d v _ (fun q => ?_) fun u s hu hun rs hn hb => ?_
  · rw [if_neg q] at hK; exact hK
  · rw [if_pos ⟨by omega, by omega⟩, hu, Int.toNat_natCast] at hK
    rw [hn]; exact hK

theorem gN_spec (d : GS h o n m M) (K : Int → Hp → Prop) (hK : K (n : Nat) h) : g_graph_Graph_N (some ⟨o.a, 0, none⟩) h K := by
  unfold g_graph_Graph_N
  refine gValid_spec d _ (cnd_f rfl (nn_of ?_))
  simp only [add_mk, Nat.zero_add]
  exact ldI_of (by rw [d.cell]; rfl) hK

theorem gEdges_spec (d : GS h o n m M) (K : Sl → Hp → Prop) (hK : ∀ s h', s.n = m → Lst h' 3 s (ints M) h.size → Fr h.size h h' → K s h') : g_graph_Graph_Edges (some ⟨o.a, 0, none⟩) h K := by
  obtain ⟨nb1, nb2⟩ := d.nb
  unfold g_graph_Graph_Edges
  refine gValid_spec d _ (cnd_f rfl (nn_of ?_))
  simp only [add_mk, Nat.zero_add]
  refine ldS_of (by rw [d.cell]; rfl) (CloneE_spec d.le.rd (by rw [d.en]; omega) _ fun s' h' hn l f => hK s' h' (hn.trans d.en) l f)

/-- Around: the list's slice in a cell of its own. -/
theorem gAround_spec (d : GS h o n m M) (v : Int) (K : Addr → Hp → Prop) (hK : ∀ (c : Nat) s P h', (¬ (0 ≤ v ∧ v < (n : Int)) → P = []) → (∀ u : Nat, v = u → u < n → P = arH M m u) → Rd h' 2 s (ints (fl2 hE (hV M) P)) → s.n = P.length → h'.blk c = some (.cells [.slice s.a s.n s.c]) → h.size ≤ c → c < h'.size → (∀ x, s.a = some x → x.block < o.hi) → Fr h.size h h' → K ⟨c, 0, none⟩ h') :
    g_graph_Graph_Around (some ⟨o.a, 0, none⟩) v h K := by
  unfold g_graph_Graph_Around
  have fin : ∀ s P, (¬ (0 ≤ v ∧ v < (n : Int)) → P = []) → (∀ u : Nat, v = u → u < n → P = arH M m u) → Rd h 2 s (ints (fl2 hE (hV M) P)) → s.n = P.length → (∀ x, s.a = some x → x.block < o.hi) → alo h [.slice none 0 0] fun a4 h5 => stc h5 (a4.add 0) (.slice s.a s.n s.c) fun h6 => K a4 h6 := fun s P h1 h2 h3 h4 hb => by
    refine alo_of fun h5 z5 b5 k5 => ?_
    simp only [add_mk, Nat.zero_add]
    refine stc_of b5 (by simp) fun h6 z6 b6 k6 => ?_
    have f6 : Fr h.size h h6 := ⟨by omega, fun c hc => by rw [k6 c (by omega), k5 c hc]⟩
    exact hK h.size s P h6 h1 h2 (h3.fr f6) h4 b6 (Nat.le_refl _) (by omega) hb f6
  refine halves_spec d v _ (fun q => fin ⟨none, 0, 0⟩ [] (fun _ => rfl) (fun u hu hun => absurd ⟨by omega, by omega⟩ q) ((Lst.nil h 2 0).rd) rfl fun x hx => by cases hx) fun u s hu hun rs hn hb => fin s (arH M m u) (fun q => absurd ⟨by omega, by omega⟩ q) (fun u' hu' _ => ?_) rs hn hb
  obtain rfl : u = u' := by omega
  rfl
end

/-- The iterator over pairs. -/
theorem iter2_spec {Y : YT} {l : Nat} {c : Addr} {s : Sl} {P : List Int} (hP : s.n < 2 ^ 40) (I : Nat → Hp → Prop) (E : Hp → Prop) {h : Hp} {K : Hp → Prop}
    (hb : ∀ k h, I k h → Rd h 2 s (ints P)) (hc : h.cell c = some (.slice s.a s.n s.c)) (hfr : ∀ k h h', I k h → Fr h.size h h' → I k h')
    (step : ∀ k h K, k < s.n → I k h → (∀ h', I (k + 1) h' → K true h') → (∀ h', E h' → K false h') → Y [.func (.yield l) #[] #[], .int .i64 (P.getD (k * 2) 0), .int .i64 (P.getD (k * 2 + 1) 0)] h K)
    (hK : ∀ h', I s.n h' → K h') (hE : ∀ h', E h' → K h') (h0 : I 0 h) : g_graph_Graph_Around_f1 Y l c h K := by
  unfold g_graph_Graph_Around_f1
  refine ldS_of hc ?_
  refine for_of s.n (fun k (t : Int × Unit) h => t.1 = (k : Int) ∧ I k h) ?_ ⟨rfl, h0⟩
  rintro k K1 ⟨t, _⟩ h1 hk ⟨rfl, hI⟩ hK1
  refine cnd_of (fun c => ?_) fun c => ?_
  · simp only [decide_eq_true_eq, Int.ofNat_eq_natCast] at c
    have hkn : k < s.n := by omega
    refine ix_rd (hb k h1 hI) (by omega) (by omega) (by omega) fun a ha hcell => ?_
    have x0 := hcell 0 (by omega); have x1 := hcell 1 (by omega)
    simp only [add_add _ _ _ ha, Int.toNat_natCast, Nat.add_zero] at x0 x1 ⊢
    refine ldI_of x0 (ldI_of x1 (alo_of fun h9 z9 b9 k9 => ?_))
    simp only [add_mk, Nat.zero_add]
    refine stc_of b9 (by simp) fun h10 z10 b10 k10 => stc_of b10 (by simp) fun h11 z11 b11 k11 => ?_
    simp only [List.set_cons_zero, List.set_cons_succ] at b11
    refine ldI_of (by rw [cell_own b11]; rfl) (ldI_of (by rw [cell_own b11]; rfl) ?_)
    have fr : Fr h1.size h1 h11 := ⟨by omega, fun c hc => by rw [k11 c (by omega), k10 c (by omega), k9 c hc]⟩
    refine step k h11 _ hkn (hfr k h1 h11 hI fr) (fun h' hI' => cnd_f rfl (hK1 hkn _ _ ⟨?_, hI'⟩)) fun h' hE' => cnd_t rfl (hE h' hE')
    simp only; rw [w64, w64s (by omega)]
  · simp only [decide_eq_false_iff_not, Int.ofNat_eq_natCast] at c
    obtain rfl : k = s.n := by omega
    exact hK h1 hI

end Go.Hx
