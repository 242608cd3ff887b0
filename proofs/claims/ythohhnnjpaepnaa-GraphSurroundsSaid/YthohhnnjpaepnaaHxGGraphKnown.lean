/- GraphKnown over the abstract heap. -/
import Derived.Test.YthohhnnjpaepnaaHxGGraphNests
namespace Go.Hx
set_option linter.unusedSimpArgs false
set_option linter.unusedVariables false

/-! ### The greatest graph. Plain -/

def bigE (j : Nat) : List Int := [((j % 4096 : Nat) : Int), (((j + 1) % 4096 : Nat) : Int), 9223372036854775807]
def big : Nat → List Int
  | 0 => []
  | k + 1 => big k ++ bigE k

theorem big_succ (k : Nat) : big (k + 1) = big k ++ bigE k := rfl
theorem big_len : ∀ k, (big k).length = k * 3
  | 0 => rfl
  | k + 1 => by rw [big_succ, List.length_append, big_len k]; show k * 3 + 3 = _; omega
theorem big_get : ∀ {k j : Nat}, j < k → tri (big k) j = bigE j
  | 0, _, h => by omega
  | k + 1, j, h => by
    rw [big_succ]
    by_cases e : j = k
    · subst e; exact tri_at (B := []) (big_len j)
    · have hl := big_len k
      rw [tri_app (by omega)]; exact big_get (by omega)
theorem big_mem : ∀ k x, x ∈ big k → i64ok x
  | 0, _, h => by cases h
  | k + 1, x, h => by
    rw [big_succ, List.mem_append] at h
    rcases h with h | h
    · exact big_mem k x h
    · simp only [bigE, List.mem_cons, List.not_mem_nil, or_false] at h
      unfold i64ok
      omega

theorem big_el {k j : Nat} (h : j < k) : (big k).getD (j * 3 + 0) 0 = ((j % 4096 : Nat) : Int) ∧ (big k).getD (j * 3 + 1) 0 = (((j + 1) % 4096 : Nat) : Int) ∧ (big k).getD (j * 3 + 2) 0 = 9223372036854775807 := by
  have e := big_get h
  unfold tri bigE at e
  simp only [List.cons.injEq, and_true] at e
  exact e
theorem big_U {k j : Nat} (h : j < k) : eU (big k) j = j % 4096 := by unfold eU; rw [(big_el h).1]; rfl
theorem big_V {k j : Nat} (h : j < k) : eV (big k) j = (j + 1) % 4096 := by unfold eV; rw [(big_el h).2.1]; rfl

theorem big_ok {k : Nat} (hk : k ≤ 16384) : GOk 4096 k (big k) := by
  refine ⟨by omega, by omega, hk, fun i hi => ?_⟩
  obtain ⟨e1, e2, _⟩ := big_el hi
  unfold okE
  rw [e1, e2]
  omega

theorem cntB_add (p : Nat → Bool) (a : Nat) : ∀ b, cntB (a + b) p = cntB a p + cntB b fun j => p (a + j)
  | 0 => rfl
  | b + 1 => by rw [← Nat.add_assoc, cntB_succ, cntB_succ, cntB_add p a b, Nat.add_assoc]

theorem cnt_per {p : Nat → Bool} {c : Nat} (hp : ∀ j, p (4096 + j) = p j) (h1 : cntB 4096 p = c) : ∀ q, cntB (4096 * q) p = q * c
  | 0 => by rw [Nat.mul_zero, Nat.zero_mul]; rfl
  | q + 1 => by
    rw [show 4096 * (q + 1) = 4096 + 4096 * q by omega, cntB_add, h1, cntB_congr (q := p) fun i _ => hp i, cnt_per hp h1 q, Nat.add_mul]; omega

theorem VX_cnt (M : List Int) (v : Nat) : ∀ k m, k ≤ m → cntB (2 * k) (fun j => gt (VX M m) j == v) = cntB k (fun j => eU M j == v) + cntB k fun j => eV M j == v
  | 0, _, _ => rfl
  | k + 1, m, h => by
    rw [cnt2, VX_cnt M v k m (by omega), cntB_succ, cntB_succ, VX_u (by omega), VX_v (by omega)]
    omega

theorem big_deg {v : Nat} (hv : v < 4096) : (arH (big 16384) 16384 v).length = 8 := by
  rw [arH_len]
  unfold szp
  rw [VX_len, VX_cnt _ _ _ _ (Nat.le_refl _)]
  have a : cntB 16384 (fun j => eU (big 16384) j == v) = 4 := by
    rw [cntB_congr (q := fun j => j % 4096 == v) fun i hi => by rw [big_U hi]]
    refine cnt_per (p := fun j => j % 4096 == v) (c := 1) (fun j => by rw [Nat.add_mod_left]) ?_ 4
    rw [cntB_congr (q := fun j => j == v) fun i hi => by rw [Nat.mod_eq_of_lt hi]]
    exact cntB_one hv
  have b : cntB 16384 (fun j => eV (big 16384) j == v) = 4 := by
    rw [cntB_congr (q := fun j => (j + 1) % 4096 == v) fun i hi => by rw [big_V hi]]
    refine cnt_per (p := fun j => (j + 1) % 4096 == v) (c := 1) (fun j => by rw [Nat.add_assoc, Nat.add_mod_left]) ?_ 4
    rw [cntB_congr (q := fun j => j == (v + 4095) % 4096) fun i hi => by rw [Bool.eq_iff_iff, beq_iff_eq, beq_iff_eq]; omega]
    exact cntB_one (Nat.mod_lt _ (by omega))
  rw [a, b]

theorem sumI_const {c : Int} : ∀ {l : List Int}, (∀ x, x ∈ l → x = c) → sumI l = l.length * c
  | [], _ => by simp [sumI]
  | y :: l, h => by
    have := sumI_const (l := l) fun x hx => h x (List.mem_cons_of_mem _ hx)
    have hy := h y (List.mem_cons_self ..)
    subst hy
    show y + sumI l = _
    rw [this, List.length_cons, Int.natCast_add, Int.add_mul]; omega

theorem big_str {v : Nat} (hv : v < 4096) : (strA (big 16384) 4096 16384 (v : Int)).2 = 7 := by
  unfold strA
  rw [if_pos ⟨by omega, by omega⟩, Int.toNat_natCast]
  have e : sumI (wtA (big 16384) 16384 v) = 8 * 9223372036854775807 := by
    rw [sumI_const (c := 9223372036854775807) fun x hx => ?_]
    · unfold wtA
      rw [List.length_map, big_deg hv]; rfl
    · unfold wtA at hx
      obtain ⟨j, hj, rfl⟩ := List.mem_map.1 hx
      have := (arH_lt hj).1
      exact (big_el (by omega)).2.2
  rw [e]
  decide

theorem big_con (v : Nat) (hv : v < 4096) : Cn (eP (big 16384) 16384) 0 v := by
  induction v with
  | zero => exact .refl 0
  | succ v ih =>
    refine .fwd (ih (by omega)) ⟨v, by omega, ?_, ?_⟩
    · rw [big_U (by omega)]; omega
    · rw [big_V (by omega)]; omega

theorem big_row {L : List Nat} (d : LC (eP (big 16384) 16384) 4096 L) : countV L = 1 ∧ rowG (groupsL L L.length) (countV L) = (4096, 16777216) := by
  have one := d.one (by omega) big_con
  have hl := d.len
  refine ⟨one, ?_⟩
  rw [one]
  have gl := groupsL_len L
  rw [one] at gl
  have z0 : gt L 0 = 0 := by have := d.le 0 (by omega); omega
  have z : ∀ k, k < 4096 → gt L k = 0 := fun k hk => by rw [← (big_con k hk).inv (gt L) d.ed]; exact z0
  have len : ((groupsL L L.length).getD 0 []).length = 4096 := by
    have h0 : 0 < (groupsL L L.length).length := by omega
    rw [List.getD, List.getElem?_eq_getElem h0, Option.getD_some]
    obtain ⟨r, hr, eg⟩ := groupsL_mem.1 (List.getElem_mem h0)
    have hr' := List.mem_filter.1 hr
    have hrn := List.mem_range.1 hr'.1
    have hrr : gt L r = r := by simpa using hr'.2
    have r0 : r = 0 := by rw [← hrr]; exact z r (by omega)
    rw [eg, groupL_len, r0]
    unfold kls
    rw [hl, cntB_congr (q := fun _ => true) fun k hk => by rw [z k hk]; rfl, cntB_all]
  rw [show (1 : Nat) = 0 + 1 from rfl, rowG_succ _ (by omega), len]
  rfl

/-! ### The walk -/

/-- A graph that is refused with an error that is known. -/
theorem gNew_bad {n : Int} {s : Sl} {M : List Int} {h : Hp} {e : Int} (hr : Rd h 3 s (ints M)) (ge : GErr n s.n M e) (K : Option Addr → Int → Hp → Prop) (hK : ∀ h', Fr h.size h h' → K none e h') : g_graph_New n s h K :=
  gNew_spec n s M h hr K (fun e' h' f' ge' => by rw [← ge.uniq ge']; exact hK h' f') fun N h' o _ ok _ _ _ => absurd ok ge.not

theorem idL4 : LC (eP [] 0) 4 [0, 1, 2, 3] := by
  rw [eP_zero]
  exact LC.start 4

set_option maxHeartbeats 2000000 in
theorem g_law13_GraphKnown_true (h : Hp) (K : Bool → Hp → Prop) (hK : ∀ h', K true h') : g_law13_GraphKnown h K := by
  unfold g_law13_GraphKnown
  refine example_spec h _ fun s h2 sn l2 f2 => gNew_spec 4 s exM h2 l2.rd _ (fun e h' _ ge => absurd (by rw [sn]; exact exOk) ge.not) fun N h5 o eN _ d lo f5 => ?_
  obtain rfl : N = 4 := by omega
  rw [sn] at d
  refine cnd_f rfl (cnd_f rfl (gLabels_spec d _ fun r6 h7 L l7 lc f7 => alo_of fun h9 z9 b9 k9 => ?_))
  obtain rfl := lc.uniq exLC
  have f9 : Fr h7.size h7 h9 := ⟨by omega, k9⟩
  refine numbers_spec (q := [0, 0, 0, 3]) (l7.rd.fr f9) (rd_row b9 (by omega) rfl) (by simp [nats]) _ fun b hb => ?_
  rw [hb.2 rfl]
  refine cnd_f rfl ?_
  have d9 := (d.fr f7).fr f9
  refine gUnder_spec d9 3 _ fun oa ma h13 hla da _ f13 => gUnder_spec (d9.fr f13) (-3) _ fun ob mb h15 hlb db _ f15 => ?_
  have ea : und exM 3 3 = [1, 2, 3, 1, 0, -2] := by decide
  have eb : und exM (-3) 3 = [] := by decide
  rw [ea] at hla da
  rw [eb] at hlb db
  obtain rfl : ma = 2 := by simp at hla; omega
  obtain rfl : mb = 0 := by simp at hlb; omega
  refine gEdges_spec (da.fr f15) _ fun r16 h17 _ l17 f17 => alo_of fun h19 z19 b19 k19 => ?_
  have f19 : Fr h17.size h17 h19 := ⟨by omega, k19⟩
  refine edges_spec (q := [1, 2, 3, 1, 0, -2]) (l17.rd.fr f19) (rd_row b19 (by omega) rfl) (by simp) _ fun b hb => ?_
  rw [hb.2 rfl]
  refine cnd_f rfl (gRow_spec ((db.fr f17).fr f19) _ fun h25 L2 lc2 f25 => ?_)
  obtain rfl := lc2.uniq idL4
  refine cnd_f (by decide) ?_
  refine alo_of fun h27 z27 b27 k27 => ?_
  refine gNew_bad (M := [0, 0, 1]) (e := 9) (rd_row b27 (by omega) rfl) (.inr ⟨(show (0 : Int) ≤ 2 ∧ (2 : Int) ≤ 4096 ∧ 1 ≤ 16384 by decide), 0, (show 0 < 1 by decide), fun j hj => by omega, .inr ⟨rfl, by unfold outE; decide, by unfold okE; decide⟩⟩) _ fun h30 f30 => alo_of fun h32 z32 b32 k32 => ?_
  refine gNew_bad (M := [0, 2, 1, 1, 1, 1]) (e := 3) (rd_row b32 (by omega) rfl) (.inr ⟨(show (0 : Int) ≤ 2 ∧ (2 : Int) ≤ 4096 ∧ 2 ≤ 16384 by decide), 0, (show 0 < 2 by decide), fun j hj => by omega, .inl ⟨rfl, by unfold outE; decide⟩⟩) _ fun h35 f35 => alo_of fun h37 z37 b37 k37 => ?_
  refine gNew_bad (M := [1, 1, 1, 0, 2, 1]) (e := 9) (rd_row b37 (by omega) rfl) (.inr ⟨(show (0 : Int) ≤ 2 ∧ (2 : Int) ≤ 4096 ∧ 2 ≤ 16384 by decide), 0, (show 0 < 2 by decide), fun j hj => by omega, .inr ⟨rfl, by unfold outE; decide, by unfold okE; decide⟩⟩) _ fun h40 f40 => ?_
  refine cnd_f rfl (cnd_f rfl (cnd_f rfl (mks_of (by omega) (by omega) (by omega) fun h42 z42 b42 k42 => ?_)))
  rw [show Int.toNat 16385 = 16385 from rfl] at b42 ⊢
  rw [zrow3] at b42
  obtain ⟨T, hT⟩ : ∃ T, T = 16385 := ⟨_, rfl⟩
  rw [← hT] at b42 ⊢
  refine jn_of (fun _ g => g.blk h40.size = some (.cells (ints (big T))) ∧ h40.size < g.size) ?_ fun K45 hK45 => ?_
  case refine_2 =>
    refine for_of T (fun i (st : Int × Unit) g => st.1 = (i : Int) ∧ g.blk h40.size = some (.cells (ints (big i ++ List.replicate ((T - i) * 3) 0))) ∧ h40.size < g.size) ?_ ⟨rfl, by simpa [big] using b42, by omega⟩
    rintro i Kr ⟨st, _⟩ g hi ⟨rfl, bg, zg⟩ hKr
    refine cnd_of (fun cc => ⟨by omega, by omega, ?_⟩) fun cc => ?_
    · simp only [decide_eq_true_eq, Int.ofNat_eq_natCast] at cc
      have hiT : i < T := by omega
      have hl := big_len i
      have e1 : Int.tmod (i : Int) 4096 = ((i % 4096 : Nat) : Int) := by rw [tmod_pos (by omega)]; rfl
      have e2 : w64 ((i : Int) + 1) = ((i + 1 : Nat) : Int) := by rw [w64, w64s (by omega)]
      have e3 : Int.tmod ((i + 1 : Nat) : Int) 4096 = (((i + 1) % 4096 : Nat) : Int) := by rw [tmod_pos (by omega)]; rfl
      rw [e1, e2, e3]
      refine ix_of (by omega) (by omega) ?_
      simp only [add_mk, Nat.zero_add, Nat.add_zero, Int.toNat_natCast]
      have er : List.replicate ((T - i) * 3) (0 : Int) = 0 :: 0 :: 0 :: List.replicate ((T - (i + 1)) * 3) 0 := by
        rw [show (T - i) * 3 = (T - (i + 1)) * 3 + 1 + 1 + 1 by omega]; rfl
      rw [er] at bg
      have lb : (ints (big i ++ 0 :: 0 :: 0 :: List.replicate ((T - (i + 1)) * 3) (0 : Int))).length = i * 3 + 3 + (T - (i + 1)) * 3 := by
        rw [ints_len, List.length_append, hl]; simp only [List.length_cons, List.length_replicate]; omega
      refine stc_of bg (by omega) fun g1 z1 b1 k1 => stc_of b1 (by rw [List.length_set]; omega) fun g2 z2 b2 k2 => stc_of b2 (by rw [List.length_set, List.length_set]; omega) fun g3 z3 b3 k3 => ?_
      rw [ints_set, ints_set, ints_set, ← hl, set3] at b3
      refine hKr hiT _ _ ⟨rfl, ?_, by omega⟩
      rw [b3, big_succ, List.append_assoc]
      rfl
    · simp only [decide_eq_false_iff_not, Int.ofNat_eq_natCast] at cc
      obtain rfl : i = T := by omega
      exact hK45 _ _ ⟨by simpa using bg, zg⟩
  rintro ⟨⟩ h44 ⟨b44, z44⟩
  refine ⟨by omega, by omega, by simp only [Int.ofNat_eq_natCast]; omega, Int.le_refl _, ?_⟩
  have hif : (if Int.ofNat T = 0 then (some (⟨h40.size, 0, none⟩ : Addr)) else Option.map (fun (q : Addr) => q.add (Int.toNat 0 * 3)) (some (⟨h40.size, 0, none⟩ : Addr))) = some ⟨h40.size, 0, none⟩ := by split <;> rfl
  simp only [hif]
  have bigT : big T = big 16384 ++ bigE 16384 := by rw [hT]; rfl
  have rdS : ∀ c, Rd h44 3 ⟨some ⟨h40.size, 0, none⟩, 16384, c⟩ (ints (big 16384)) := fun c => by
    have hl := big_len 16384
    refine ⟨?_, fun a ha _ => by cases ha; exact z44⟩
    have hlen : (ints (big 16384)).length = 16384 * 3 := by rw [ints_len, hl]
    have e : h44.seg (some ⟨h40.size, 0, none⟩) (16384 * 3) = some (((ints (big T)).drop 0).take (16384 * 3)) := seg_row (row_own b44) (by rw [ints_len, big_len]; omega)
    rw [List.drop_zero, bigT, ints_app, List.take_append_of_le_length (Nat.le_of_eq hlen.symm), List.take_of_length_le (Nat.le_of_eq hlen)] at e
    exact e
  rw [show Int.toNat (16384 - 0) = 16384 from rfl]
  have G1 := big_ok (k := 16384) (Nat.le_refl _)
  obtain ⟨G, hG⟩ : ∃ G, G = big 16384 := ⟨_, rfl⟩
  refine gNew_spec 4096 _ _ h44 (rdS _) _ (fun e h' _ ge => absurd G1 ge.not) fun N h48 o4 eN _ d4 lo4 f48 => ?_
  obtain rfl : N = 4096 := by omega
  have z48 := f48.size
  have bT48 := (f48.blk _ z44).trans b44
  refine gNew_bad (M := big T) (e := 2) (rd_row bT48 (by omega) (big_len T)) (.inl ⟨rfl, by simp only; omega⟩) _ fun h51 f51 => ?_
  refine gNew_bad (M := []) (e := 2) (rdNil _ 3) (.inl ⟨rfl, by omega⟩) _ fun h54 f54 => gNew_bad (M := []) (e := 2) (rdNil _ 3) (.inl ⟨rfl, by omega⟩) _ fun h57 f57 => ?_
  refine cnd_f rfl (cnd_f rfl (cnd_f rfl (cnd_f rfl (cnd_f rfl ?_))))
  have d57 := ((d4.fr f51).fr f54).fr f57
  simp only at d57
  refine gStrength_spec d57 (fun x hx => big_mem _ x hx) 5 _ fun h60 f60 => ?_
  have d60 := d57.fr f60
  refine gStrength_spec d60 (fun x hx => big_mem _ x hx) 4096 _ fun h63 f63 => ?_
  have d63 := d60.fr f63
  have S1 : (strA (big 16384) 4096 16384 5).2 = 7 := big_str (v := 5) (by omega)
  have S2 : (strA (big 16384) 4096 16384 4096).2 = 3 := by
    unfold strA
    rw [if_neg (by omega)]
  generalize strA (big 16384) 4096 16384 5 = X1 at S1 ⊢
  generalize strA (big 16384) 4096 16384 4096 = X2 at S2 ⊢
  refine gNew_spec 0 _ [] h63 (rdNil _ 3) _ (fun e h' _ ge => (ge.not ⟨Int.le_refl _, by omega, Nat.zero_le _, fun i hi => absurd hi (Nat.not_lt_zero i)⟩).elim) fun N0 h66 o0 eN0 _ d0 lo0 f66 => ?_
  obtain rfl : N0 = 0 := by omega
  rw [S1, S2]
  refine cnd_t rfl (cnd_t rfl ?_)
  have d66 := d63.fr f66
  refine gDegree_spec d66 0 _ ?_
  rw [if_pos ⟨by omega, by omega⟩, show Int.toNat 0 = 0 from rfl, big_deg (by omega)]
  refine cnd_t rfl (gRow_spec d66 _ fun h72 L3 lc3 f72 => ?_)
  obtain ⟨c1, c2⟩ := big_row lc3
  rw [c2, c1]
  refine cnd_t rfl (cnd_t rfl (cnd_t rfl (gRow_spec (d0.fr f72) _ fun h76 L4 lc4 f76 => ?_)))
  have e4 : L4 = [] := List.eq_nil_of_length_eq_zero lc4.len
  rw [e4]
  exact cnd_t rfl (works13_spec _ _ fun h' _ => hK h')

end Go.Hx
