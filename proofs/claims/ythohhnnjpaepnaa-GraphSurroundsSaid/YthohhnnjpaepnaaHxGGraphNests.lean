/- GraphNests over the abstract heap. -/
import Derived.Test.YthohhnnjpaepnaaHxGGraphCuts
import Derived.Test.YthohhnnjpaepnaaHxGrV
import Derived.Test.YthohhnnjpaepnaaHxGGraphConnects
namespace Go.Hx
set_option linter.unusedSimpArgs false
set_option linter.unusedVariables false

set_option maxHeartbeats 1000000 in
theorem g_law13_GraphNests_true (s : Sl) (t0 e0 : Int) (h : Hp) (K : Bool → Hp → Prop) {C : List Value} (hr : Rd h 3 s C) (hy : s.n ≤ 2 ^ 63 - 1)
    (hm : ∀ i j l, i < s.n → [LK.int .u8, .int .u8, .int .i8][j]? = some l → ∃ v, C[i * 3 + j]? = some v ∧ okCell l v) (_ : -9223372036854775808 ≤ t0 ∧ t0 ≤ 9223372036854775807) (_ : -9223372036854775808 ≤ e0 ∧ e0 ≤ 9223372036854775807) (hK : ∀ h', K true h') : g_law13_GraphNests s t0 e0 h K := by
  have hC := lkC hm
  unfold g_law13_GraphNests
  refine cnd_of (fun c => works13_spec h _ fun h' _ => hK h') fun c => ?_
  simp only [decide_eq_false_iff_not, Int.ofNat_eq_natCast] at c
  refine jn_of (fun (st : Int × Int × Unit) g => st.1 ≤ st.2.1 ∧ g = h) ?_ fun K5 hK5 => ?_
  case refine_2 =>
    refine cnd_of (fun cc => hK5 _ _ ⟨?_, rfl⟩) fun cc => hK5 _ _ ⟨?_, rfl⟩
    all_goals simp only [decide_eq_true_eq, decide_eq_false_iff_not] at cc ⊢; omega
  rintro ⟨t, e, _⟩ g ⟨hte, eg⟩
  rw [eg]
  simp only at hte ⊢
  refine made_spec hr (by omega) hC _ fun o m h7 bl hm7 d lo f7 => cnd_f rfl ?_
  obtain ⟨M, hM⟩ : ∃ M, M = blt C 40 s.n := ⟨_, rfl⟩
  rw [← hM] at d bl
  refine gUnder_spec d t _ fun oa ma h9 hla da _ f9 => gUnder_spec (d.fr f9) e _ fun ob mb h11 hlb db _ f11 => ?_
  have da11 := da.fr f11
  refine gLabels_spec da11 _ fun r12 h13 L l12 lc f13 => gLabels_spec (db.fr f13) _ fun r14 h15 L' l14 lc' f15 => ?_
  have n12 : r12.n = 40 := by have := l12.1; rw [ints_len, nats_len, lc.len] at this; omega
  have n14 : r14.n = 40 := by have := l14.1; rw [ints_len, nats_len, lc'.len] at this; omega
  have hPQ : ∀ u v, eP (und M t m) ma u v → eP (und M e m) mb u v := fun u v h => by
    obtain ⟨x, h1, h2, h3⟩ := (und_P hla u v).1 h
    exact (und_P hlb u v).2 ⟨x, h1, by omega, h3⟩
  obtain ⟨more1, more2, more3⟩ := lc.more lc' (by omega) hPQ
  have gl : ∀ {j : Nat}, j < 40 → j < L.length := fun hj => by rw [lc.len]; exact hj
  have gl' : ∀ {j : Nat}, j < 40 → j < L'.length := fun hj => by rw [lc'.len]; exact hj
  refine cnd_f (by simp [n12]) (cnd_f (by simp [n14]) ?_)
  have r12r := l12.rd.fr f15
  refine jn_of (fun _ g => g = h15) ?_ fun K18 hK18 => ?_
  case refine_2 =>
    refine for_of 40 (fun i (st : Int × Unit) g => st.1 = (i : Int) ∧ g = h15) ?_ ⟨rfl, rfl⟩
    rintro i Kr ⟨st, _⟩ g hi ⟨rfl, eg⟩ hKr
    rw [eg]
    refine cnd_of (fun c => ?_) fun c => hK18 _ _ rfl
    simp only [decide_eq_true_eq] at c
    have him : i < 40 := by omega
    have hle := lc.le i him
    refine get1_spec r12r (gl him) _ (cnd_f (by simp) (get1_spec r12r (gl him) _ (cnd_f (by simp only [decide_eq_false_iff_not]; omega) (get1_spec r12r (gl him) _ (get1_spec l14.rd (gl' (by omega)) _ (get1_spec l14.rd (gl' him) _ (cnd_f ?_ (hKr him _ _ ⟨?_, rfl⟩))))))))
    · rw [← ((lc.con i him).mono hPQ).inv (gt L') lc'.ed]; simp
    · simp only; rw [w64, w64s (by omega)]
  rintro ⟨⟩ g' eg'
  rw [eg']
  have da15 := (da11.fr f13).fr f15
  have db15 := (db.fr f13).fr f15
  refine gRow_spec da15 _ fun h22 L2 lc2 f22 => gRow_spec (db15.fr f22) _ fun h26 L3 lc3 f26 => ?_
  obtain rfl := lc.uniq lc2
  obtain rfl := lc'.uniq lc3
  have da26 := (da15.fr f22).fr f26
  have db26 := (db15.fr f22).fr f26
  obtain ⟨x1, hx1⟩ : ∃ x, x = (rowG (groupsL L L.length) (countV L)).1 := ⟨_, rfl⟩
  obtain ⟨x2, hx2⟩ : ∃ x, x = (rowG (groupsL L L.length) (countV L)).2 := ⟨_, rfl⟩
  obtain ⟨y1, hy1⟩ : ∃ x, x = (rowG (groupsL L' L'.length) (countV L')).1 := ⟨_, rfl⟩
  obtain ⟨y2, hy2⟩ : ∃ x, x = (rowG (groupsL L' L'.length) (countV L')).2 := ⟨_, rfl⟩
  rw [← hx1, ← hy1] at more2
  rw [← hx2, ← hy2] at more3
  rw [← hx1, ← hx2, ← hy1, ← hy2]
  refine alo_of fun h28 z28 b28 k28 => alo_of fun h30 z30 b30 k30 => ?_
  simp only [add_mk, Nat.zero_add]
  refine stc_of ((k30 _ (by omega)).trans b28) (by simp) fun h31 z31 b31 k31 => stc_of b31 (by simp) fun h32 z32 b32 k32 => stc_of b32 (by simp) fun h33 z33 b33 k33 => ?_
  have bb30 : h33.blk h28.size = _ := (k33 _ (by omega)).trans ((k32 _ (by omega)).trans ((k31 _ (by omega)).trans b30))
  refine stc_of bb30 (by simp) fun h34 z34 b34 k34 => stc_of b34 (by simp) fun h35 z35 b35 k35 => stc_of b35 (by simp) fun h36 z36 b36 k36 => ?_
  simp only [List.set_cons_zero, List.set_cons_succ] at b33 b36
  have f36 : Fr h26.size h26 h36 := ⟨by omega, fun y hy => by rw [k36 _ (by omega), k35 _ (by omega), k34 _ (by omega), k33 _ (by omega), k32 _ (by omega), k31 _ (by omega), k30 _ (by omega), k28 _ hy]⟩
  have ba36 : h36.blk h26.size = _ := (k36 _ (by omega)).trans ((k35 _ (by omega)).trans ((k34 _ (by omega)).trans b33))
  refine gUnder_spec (db26.fr f36) t _ fun oc mc h38 hlc dc _ f38 => ?_
  have euu := und_und hte m mb hlb
  rw [euu] at dc hlc
  obtain ⟨l0, hl0, hle0⟩ := und_len M t m
  refine gEdges_spec dc _ fun r39 h40 _ l40 f40 => gEdges_spec (((da26.fr f36).fr f38).fr f40) _ fun r41 h42 _ l42 f42 => ?_
  have z38 := f38.size; have z40 := f40.size; have z42 := f42.size
  refine edges_spec (l40.rd.fr f42) l42.rd (by omega) _ fun b hb => cnd_t (hb.2 rfl) ?_
  have ba : h42.blk h26.size = _ := (f42.blk _ (by omega)).trans ((f40.blk _ (by omega)).trans ((f38.blk _ (by omega)).trans ba36))
  have bb : h42.blk h28.size = _ := (f42.blk _ (by omega)).trans ((f40.blk _ (by omega)).trans ((f38.blk _ (by omega)).trans b36))
  refine ldI_of (by rw [cell_own ba]; rfl) (ldI_of (by rw [cell_own bb]; rfl) (cnd_t (by simp only [decide_eq_true_eq]; omega) ?_))
  refine ldI_of (by rw [cell_own ba]; rfl) (ldI_of (by rw [cell_own bb]; rfl) (cnd_t (by simp only [decide_eq_true_eq]; omega) ?_))
  exact ldI_of (by rw [cell_own ba]; rfl) (ldI_of (by rw [cell_own bb]; rfl) (cnd_t (by simp only [decide_eq_true_eq]; omega) (works13_spec _ _ fun h' _ => hK h')))

end Go.Hx
