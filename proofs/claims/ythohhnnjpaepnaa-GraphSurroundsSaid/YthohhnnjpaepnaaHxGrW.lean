/- How many components a graph has. No condition. -/
import Derived.Test.YthohhnnjpaepnaaHxGrC
import Derived.Test.YthohhnnjpaepnaaHxGrF
import Derived.Test.YthohhnnjpaepnaaHxDsuH
namespace Go.Hx
set_option linter.unusedSimpArgs false
set_option linter.unusedVariables false

theorem gComps_spec {h : Hp} {o : GOb} {n m : Nat} {M : List Int} (d : GS h o n m M) (K : Sl → Hp → Prop)
    (hK : ∀ s h' L, GrpL h' s (groupsL L L.length) h.size → LC (eP M m) n L → Fr h.size h h' → K s h') : g_graph_Graph_Components (some ⟨o.a, 0, none⟩) h K := by
  unfold g_graph_Graph_Components
  refine sets_spec d _ fun h2 o2 L d2 lc lo f2 => Groups_spec d2 _ fun s h4 d4 f4 l4 => ?_
  have z2 := f2.size; have z4 := f4.size
  obtain ⟨ss, h1, h2', h3⟩ := l4
  exact hK s h4 L ⟨ss, h1.le z2, h2', fun j hj => (h3 j hj).le z2⟩ lc ⟨by omega, fun y hy => by rw [f4.blk y (by omega) (.inl (by omega)), f2.blk y hy]⟩

theorem groupsL_len (L : List Nat) : (groupsL L L.length).length = countV L := by
  unfold groupsL countV cntB; rw [List.length_map]

/-- What Row sums up. -/
def rowG (G : List (List Nat)) (k : Nat) : Int × Int :=
  ((G.take k).foldl (fun (a : Int × Int) g => (if (g.length : Int) > a.1 then (g.length : Int) else a.1, w64 (a.2 + w64 ((g.length : Int) * (g.length : Int))))) (0, 0))

theorem rowG_succ (G : List (List Nat)) {k : Nat} (hk : k < G.length) : rowG G (k + 1) = (if ((G.getD k []).length : Int) > (rowG G k).1 then ((G.getD k []).length : Int) else (rowG G k).1, w64 ((rowG G k).2 + w64 (((G.getD k []).length : Int) * ((G.getD k []).length : Int)))) := by
  unfold rowG
  rw [List.take_succ_eq_append_getElem hk, List.foldl_append]
  simp [List.getD, List.getElem?_eq_getElem hk]

theorem gRow_spec {h : Hp} {o : GOb} {n m : Nat} {M : List Int} (d : GS h o n m M) (K : Int → Int → Int → Hp → Prop)
    (hK : ∀ h' L, LC (eP M m) n L → Fr h.size h h' → K (rowG (groupsL L L.length) (countV L)).1 (countV L : Nat) (rowG (groupsL L L.length) (countV L)).2 h') : g_graph_Graph_Row (some ⟨o.a, 0, none⟩) h K := by
  obtain ⟨nn', nm⟩ := d.nb
  unfold g_graph_Graph_Row
  refine alo_of fun h2 z2 b2 k2 => alo_of fun h4 z4 b4 k4 => ?_
  have f4 : Fr h.size h h4 := ⟨by omega, fun c hc => by rw [k4 _ (by omega), k2 _ hc]⟩
  refine gComps_spec (d.fr f4) _ fun s5 h6 L g6 lc f6 => ?_
  have z6 := f6.size
  have gl := groupsL_len L
  have cl : countV L ≤ L.length := cntB_le _ _
  have hl := lc.len
  have b6 : h6.blk h2.size = some (.cells [.int .i64 0, .int .i64 0, .int .i64 0]) := by rw [f6.blk _ (by omega), b4]
  have sn := g6.grp.len
  refine for_of (countV L) (fun k (st : Int × Unit) g => st.1 = (k : Int) ∧ FrI h2.size (h2.size + 1) h6 g ∧ g.blk h2.size = some (.cells [.int .i64 (rowG (groupsL L L.length) k).1, .int .i64 (k : Nat), .int .i64 (rowG (groupsL L L.length) k).2])) ?_ ⟨rfl, FrI.refl _ _ _, by rw [b6]; rfl⟩
  rintro k Kr ⟨st, u⟩ g hk ⟨rfl, fg, bg⟩ hKr
  have zg := fg.size
  refine cnd_of (fun c => ?_) fun c => ?_
  · simp only [decide_eq_true_eq, sn, gl, Int.ofNat_eq_natCast] at c
    have hkc : k < countV L := by omega
    have hkg : k < (groupsL L L.length).length := by omega
    refine (g6.frI fg (by omega)).grp.ix (by omega) (by omega) fun t rt => ?_
    have tl : t.n = ((groupsL L L.length).getD k []).length := by have := rt.ilen; rw [nats_len, Int.toNat_natCast] at this; omega
    simp only [add_mk, Nat.zero_add, Nat.add_zero]
    refine ldI_of (by rw [cell_own bg]; rfl) (stc_of bg (by simp) fun h13 z13 b13 k13 => ldI_of (by rw [cell_own b13]; rfl) (stc_of b13 (by simp) fun h15 z15 b15 k15 => ldI_of (by rw [cell_own b15]; rfl) (stc_of b15 (by simp) fun h17 z17 b17 k17 => hKr hkc _ _ ⟨?_, ⟨by omega, fun c hc ho => ?_⟩, ?_⟩)))
    · simp only; rw [w64, w64s (by omega)]
    · rw [k17 _ (by omega), k15 _ (by omega), k13 _ (by omega), fg.blk c hc ho]
    · rw [b17, rowG_succ _ hkg]
      simp only [List.set_cons_succ, List.set_cons_zero, tl, Int.ofNat_eq_natCast]
      rw [w64, w64s (by omega)]
  · simp only [decide_eq_false_iff_not, sn, gl, Int.ofNat_eq_natCast] at c
    obtain rfl : k = countV L := by omega
    have bb : g.blk h.size = some (.cells [.int .i64 0, .int .i64 0, .int .i64 0]) := by rw [fg.blk _ (by omega) (.inl (by omega)), f6.blk _ (by omega), k4 _ (by omega), b2]
    simp only [add_mk, Nat.zero_add, Nat.add_zero]
    refine ldI_of (by rw [cell_own bg]; rfl) (ldI_of (by rw [cell_own bg]; rfl) (ldI_of (by rw [cell_own bg]; rfl) (stc_of bb (by simp) fun h21 z21 b21 k21 => stc_of b21 (by simp) fun h22 z22 b22 k22 => stc_of b22 (by simp) fun h23 z23 b23 k23 => ?_)))
    simp only [List.set_cons_zero, List.set_cons_succ] at b23
    refine ldI_of (by rw [cell_own b23]; rfl) (ldI_of (by rw [cell_own b23]; rfl) (ldI_of (by rw [cell_own b23]; rfl) ?_))
    exact hK h23 L lc ⟨by omega, fun c hc => by rw [k23 _ (by omega), k22 _ (by omega), k21 _ (by omega), fg.blk _ (by omega) (.inl (by omega)), f6.blk _ (by omega), f4.blk _ hc]⟩

theorem LC.one {P : Nat → Nat → Prop} {n : Nat} {L : List Nat} (d : LC P n L) (hn : 1 ≤ n) (h : ∀ v, v < n → Cn P 0 v) : countV L = 1 := by
  have e : ∀ v, v < n → gt L v = 0 := fun v hv => by
    rw [← (h v hv).inv (gt L) d.ed]
    have := d.le 0 (by omega); omega
  unfold countV
  rw [d.len]
  refine Eq.trans (cntB_congr (q := fun k => k == 0) fun k hk => ?_) (cntB_one (by omega))
  rw [e k hk, Bool.eq_iff_iff, beq_iff_eq, beq_iff_eq]; omega

end Go.Hx
