/- Graphs that are not valid; the document's components and rows. No condition. -/
import Derived.Test.YthohhnnjpaepnaaHxGrY
import Derived.Test.YthohhnnjpaepnaaHxGrW
import Derived.Test.YthohhnnjpaepnaaHxGrL
namespace Go.Hx
set_option linter.unusedSimpArgs false
set_option linter.unusedVariables false

/-- A graph that is not valid. -/
def NG (h : Hp) (g : Option Addr) : Prop := g = none ∨ ∃ (b : Nat) (xs : List Value), g = some ⟨b, 0, none⟩ ∧ b < h.size ∧ h.blk b = some (.cells (.bool false :: xs))

theorem NG.fr {h h' : Hp} {g : Option Addr} (d : NG h g) (f : Fr h.size h h') : NG h' g := by
  rcases d with rfl | ⟨b, xs, rfl, hb, hx⟩
  · exact .inl rfl
  · exact .inr ⟨b, xs, rfl, by have := f.size; omega, (f.blk b hb).trans hx⟩

section
variable {h : Hp} {g : Option Addr}

theorem gValid_nil (d : NG h g) (K : Bool → Hp → Prop) (hK : K false h) : g_graph_Graph_valid g h K := by
  unfold g_graph_Graph_valid
  rcases d with rfl | ⟨b, xs, rfl, hb, hx⟩
  · exact cnd_f rfl hK
  · refine cnd_t rfl (nn_of ?_)
    simp only [add_mk, Nat.zero_add]
    exact ldB_of (by rw [cell_own hx]; rfl) hK

theorem sets_nil (d : NG h g) (K : Option Addr → Hp → Prop) (hK : K none h) : g_graph_Graph_sets g h K := by
  unfold g_graph_Graph_sets
  exact gValid_nil d _ (cnd_t rfl hK)

theorem duLen_nil (h : Hp) (K : Int → Hp → Prop) (hK : K 0 h) : g_dsu_Sets_Len none h K := by
  unfold g_dsu_Sets_Len
  exact cnd_t rfl hK

theorem gLabels_nil (d : NG h g) (K : Sl → Hp → Prop) (hK : K ⟨none, 0, 0⟩ h) : g_graph_Graph_Labels g h K := by
  unfold g_graph_Graph_Labels
  refine sets_nil d _ ?_
  unfold g_dsu_Sets_Labels
  exact duLen_nil h _ (cnd_t rfl hK)

theorem gComps_nil (d : NG h g) (K : Sl → Hp → Prop) (hK : K ⟨none, 0, 0⟩ h) : g_graph_Graph_Components g h K := by
  unfold g_graph_Graph_Components
  refine sets_nil d _ ?_
  unfold g_dsu_Sets_Groups
  exact duLen_nil h _ (cnd_t rfl hK)

theorem gRow_nil (d : NG h g) (K : Int → Int → Int → Hp → Prop) (hK : ∀ h', Fr h.size h h' → K 0 0 0 h') : g_graph_Graph_Row g h K := by
  unfold g_graph_Graph_Row
  refine alo_of fun h2 z2 b2 k2 => alo_of fun h4 z4 b4 k4 => ?_
  have f4 : Fr h.size h h4 := ⟨by omega, fun c hc => by rw [k4 _ (by omega), k2 _ hc]⟩
  refine gComps_nil (d.fr f4) _ ?_
  refine for_of 0 (fun _ (st : Int × Unit) g => st.1 = 0 ∧ g = h4) ?_ ⟨rfl, rfl⟩
  rintro i Kr ⟨st, _⟩ g' hi ⟨rfl, eg⟩ hKr
  rw [eg]
  refine cnd_f rfl ?_
  simp only [add_mk, Nat.zero_add]
  have b2' := (k4 _ (by omega)).trans b2
  refine ldI_of (by rw [cell_own b4]; rfl) (ldI_of (by rw [cell_own b4]; rfl) (ldI_of (by rw [cell_own b4]; rfl) (stc_of b2' (by simp) fun h5 z5 b5 k5 => stc_of b5 (by simp) fun h6 z6 b6 k6 => stc_of b6 (by simp) fun h7 z7 b7 k7 => ?_)))
  simp only [List.set_cons_zero, List.set_cons_succ] at b7
  refine ldI_of (by rw [cell_own b7]; rfl) (ldI_of (by rw [cell_own b7]; rfl) (ldI_of (by rw [cell_own b7]; rfl) ?_))
  exact hK h7 ⟨by omega, fun c hc => by rw [k7 _ (by omega), k6 _ (by omega), k5 _ (by omega), f4.blk _ hc]⟩

theorem gHalves_nil (d : NG h g) (v : Int) (K : Sl → Bool → Hp → Prop) (hK : K ⟨none, 0, 0⟩ false h) : g_graph_Graph_halves g v h K := by
  unfold g_graph_Graph_halves
  exact gValid_nil d _ (cnd_t rfl hK)
end

/-! ### The document's -/

theorem rgValid_nil (h : Hp) (K : Bool → Hp → Prop) (hK : K false h) : g_ref13_Graph_valid none h K := by
  unfold g_ref13_Graph_valid
  exact cnd_f rfl hK
theorem rgLabels_nil (h : Hp) (K : Sl → Hp → Prop) (hK : K ⟨none, 0, 0⟩ h) : g_ref13_Graph_Labels none h K := by
  unfold g_ref13_Graph_Labels
  exact rgValid_nil h _ (cnd_t rfl hK)
theorem rgComps_nil (h : Hp) (K : Sl → Hp → Prop) (hK : K ⟨none, 0, 0⟩ h) : g_ref13_Graph_Components none h K := by
  unfold g_ref13_Graph_Components
  refine rgLabels_nil h _ ?_
  refine for_of 0 (fun _ (st : Sl × Int × Unit) g => st.1 = ⟨none, 0, 0⟩ ∧ st.2.1 = 0 ∧ g = h) ?_ ⟨rfl, rfl, rfl⟩
  rintro i Kr ⟨s, st, _⟩ g' hi ⟨rfl, rfl, eg⟩ hKr
  rw [eg]
  exact cnd_f rfl hK
theorem rgRow_nil (h : Hp) (K : Int → Int → Int → Hp → Prop) (hK : ∀ h', Fr h.size h h' → K 0 0 0 h') : g_ref13_Graph_Row none h K := by
  unfold g_ref13_Graph_Row
  refine alo_of fun h2 z2 b2 k2 => rgComps_nil h2 _ (alo_of fun h4 z4 b4 k4 => ?_)
  simp only [add_mk, Nat.zero_add]
  refine stc_of b4 (by simp) fun h5 z5 b5 k5 => stc_of b5 (by simp) fun h6 z6 b6 k6 => stc_of b6 (by simp) fun h7 z7 b7 k7 => ?_
  simp only [List.set_cons_zero, List.set_cons_succ] at b7
  refine for_of 0 (fun _ (st : Int × Unit) g => st.1 = 0 ∧ g = h7) ?_ ⟨rfl, rfl⟩
  rintro i Kr ⟨st, _⟩ g' hi ⟨rfl, eg⟩ hKr
  rw [eg]
  refine cnd_f rfl ?_
  have b2' : h7.blk h.size = _ := (k7 _ (by omega)).trans ((k6 _ (by omega)).trans ((k5 _ (by omega)).trans ((k4 _ (by omega)).trans b2)))
  refine ldI_of (by rw [cell_own b7]; rfl) (ldI_of (by rw [cell_own b7]; rfl) (ldI_of (by rw [cell_own b7]; rfl) (stc_of b2' (by simp) fun h8 z8 b8 k8 => stc_of b8 (by simp) fun h9 z9 b9 k9 => stc_of b9 (by simp) fun h10 z10 b10 k10 => ?_)))
  simp only [List.set_cons_zero, List.set_cons_succ] at b10
  refine ldI_of (by rw [cell_own b10]; rfl) (ldI_of (by rw [cell_own b10]; rfl) (ldI_of (by rw [cell_own b10]; rfl) ?_))
  exact hK h10 ⟨by omega, fun c hc => by rw [k10 _ (by omega), k9 _ (by omega), k8 _ (by omega), k7 _ (by omega), k6 _ (by omega), k5 _ (by omega), k4 _ (by omega), k2 _ hc]⟩

section
variable {h : Hp} {a : Nat} {e : Sl} {n m : Nat} {M : List Int} {B : Nat}

theorem rgComps_spec (d : RG h a e n m M B) (K : Sl → Hp → Prop)
    (hK : ∀ s h' L, Grp h' s (groupsL L L.length) → LC (eP M m) n L → Fr h.size h h' → K s h') : g_ref13_Graph_Components (some ⟨a, 0, none⟩) h K := by
  have nn' : n ≤ 4096 := by have := d.ok.2.1; omega
  unfold g_ref13_Graph_Components
  refine rgLabels_spec d _ fun r1 h2 L l2 lc f2 => ?_
  have z2 := f2.size
  have hL : L.length ≤ 4096 := by rw [lc.len]; exact nn'
  have rn : r1.n = L.length := by have := l2.1; rw [ints_len, nats_len] at this; omega
  refine for_of L.length (fun i (t : Sl × Int × Unit) H => t.2.1 = (i : Int) ∧ Fr h2.size h2 H ∧ GrpO H t.1 (groupsL L i) h2.size) ?_ ⟨rfl, Fr.refl _ _, GrpO.nil _ _⟩
  rintro i K1 ⟨s, t, u⟩ H hi ⟨rfl, fr, hg⟩ hK1
  simp only
  have hgl := groupsL_le L i
  have hsn : s.n = (groupsL L i).length := hg.len
  have hs := fr.size
  have hb : ∀ x, s.a = some x → x.block < H.size := fun x hx => by
    obtain ⟨ss, hl, -⟩ := hg
    exact (hl.blk_lt hx).2.1
  have hb2 : ∀ x, s.a = some x → h2.size ≤ x.block := fun x hx => by
    obtain ⟨ss, hl, -⟩ := hg
    exact (hl.blk_lt hx).1
  refine cnd_of (fun f => ?_) fun f => ?_
  · simp only [decide_eq_true_eq, rn, Int.ofNat_eq_natCast] at f
    have him : i < L.length := by omega
    have ei : w64 ((i : Int) + 1) = ((i + 1 : Nat) : Int) := by rw [w64, w64_eq (by omega) (by omega)]; omega
    refine get1_spec (l2.rd.fr fr) him _ (cnd_of (fun e => ?_) fun e => ?_)
    · simp only [bne_iff_ne] at e
      refine hK1 him _ _ ⟨ei, fr, ?_⟩
      rw [groupsL_succ, if_neg (fun k => e (congrArg Int.ofNat k)), List.append_nil]; exact hg
    · simp only [bne_eq_false_iff_eq] at e
      have e : gt L i = i := Int.ofNat.inj e
      unfold jn
      refine for_of (L.length - i) (fun j (t : Sl × Int × Unit) H2 => t.2.1 = ((i + j : Nat) : Int) ∧ Fr H.size H H2 ∧ Lst H2 1 t.1 (ints (nats (groupL L i (i + j)))) H.size) ?_ ⟨rfl, Fr.refl _ _, by rw [Nat.add_zero, groupL_low lc.linv him]; exact Lst.nil _ _ _⟩
      rintro j K2 ⟨s2, t2, u2⟩ H2 hj ⟨rfl, fr2, l2'⟩ hK2
      simp only
      have fr' := fr.trans (fr2.mono fr.size)
      have hs2 : s2.n = (groupL L i (i + j)).length := by have := l2'.1; rw [ints_len, nats_len] at this; simp only at this; omega
      have hs2' := groupL_le L i (i + j)
      refine cnd_of (fun g => ?_) fun g => ?_
      · simp only [decide_eq_true_eq, rn, Int.ofNat_eq_natCast] at g
        have ej : w64 (((i + j : Nat) : Int) + 1) = ((i + (j + 1) : Nat) : Int) := by rw [w64, w64_eq (by omega) (by omega)]; omega
        refine get1_spec (l2.rd.fr fr') (by omega) _ (cnd_of (fun q => ?_) fun q => ?_)
        · simp only [beq_iff_eq] at q
          refine app1_spec l2' fr2.size (show s2.n < 2 ^ 40 by omega) fun s3 H3 l3 z3 k3 => ?_
          refine hK2 (by omega) _ _ ⟨ej, fr2.trans ⟨z3, fun c hc => (k3 c (by have := fr2.size; omega) fun x hx => by have := (l2'.blk_lt hx).1; omega).1⟩, ?_⟩
          rw [← Nat.add_assoc, groupL_succ, if_pos (Int.ofNat.inj q), nats_app]; exact l3
        · simp only [beq_eq_false_iff_ne] at q
          refine hK2 (by omega) _ _ ⟨ej, fr2, ?_⟩
          rw [← Nat.add_assoc, groupL_succ, if_neg (fun k => q (congrArg Int.ofNat k)), List.append_nil]; exact l2'
      · simp only [decide_eq_false_iff_not, rn, Int.ofNat_eq_natCast] at g
        have hij : i + j = L.length := by omega
        rw [hij] at l2'
        refine GrpO.app (hg.fr fr2) (by have := fr2.size; omega) (l2'.le hs) (fun x hx y hy => by have := (l2'.blk_lt hx).1; have := hb y hy; omega) (show s.n < 2 ^ 40 by omega) fun s3 H3 g3 z3 k3 => ?_
        refine hK1 him _ _ ⟨ei, fr'.trans ⟨z3, fun c hc => (k3 c (by have := fr'.size; omega) fun x hx => by have := hb2 x hx; omega).1⟩, ?_⟩
        rw [groupsL_succ, if_pos e]; exact g3
  · simp only [decide_eq_false_iff_not, rn, Int.ofNat_eq_natCast] at f
    obtain rfl : i = L.length := by omega
    exact hK _ _ L hg.grp lc ⟨by omega, fun y hy => by rw [fr.blk _ (by omega), f2.blk y hy]⟩

theorem rgRow_spec (d : RG h a e n m M B) (K : Int → Int → Int → Hp → Prop)
    (hK : ∀ h' L, LC (eP M m) n L → Fr h.size h h' → K (rowG (groupsL L L.length) (countV L)).1 (countV L : Nat) (rowG (groupsL L L.length) (countV L)).2 h') : g_ref13_Graph_Row (some ⟨a, 0, none⟩) h K := by
  have nn' : n ≤ 4096 := by have := d.ok.2.1; omega
  unfold g_ref13_Graph_Row
  refine alo_of fun h2 z2 b2 k2 => ?_
  have f2 : Fr h.size h h2 := ⟨by omega, k2⟩
  refine rgComps_spec (d.fr f2) _ fun s3 h4 L g4 lc f4 => alo_of fun h6 z6 b6 k6 => ?_
  have z4 := f4.size
  simp only [add_mk, Nat.zero_add]
  refine stc_of b6 (by simp) fun h7 z7 b7 k7 => stc_of b7 (by simp) fun h8 z8 b8 k8 => stc_of b8 (by simp) fun h9 z9 b9 k9 => ?_
  have gl := groupsL_len L
  have cl : countV L ≤ L.length := cntB_le _ _
  have hl := lc.len
  have sn := g4.len
  simp only [List.set_cons_zero, List.set_cons_succ, sn, gl, Int.ofNat_eq_natCast] at b9
  have f69 : Fr h4.size h4 h9 := ⟨by omega, fun c hc => by rw [k9 _ (by omega), k8 _ (by omega), k7 _ (by omega), k6 _ hc]⟩
  have g9 := g4.fr f69
  refine for_of (countV L) (fun k (st : Int × Unit) g => st.1 = (k : Int) ∧ FrI h4.size (h4.size + 1) h9 g ∧ g.blk h4.size = some (.cells [.int .i64 (rowG (groupsL L L.length) k).1, .int .i64 (countV L : Nat), .int .i64 (rowG (groupsL L L.length) k).2])) ?_ ⟨rfl, FrI.refl _ _ _, b9⟩
  rintro k Kr ⟨st, u⟩ g hk ⟨rfl, fg, bg⟩ hKr
  have zg := fg.size
  have f4g : Fr h4.size h4 g := ⟨by omega, fun c hc => by rw [fg.blk c (by omega) (.inl hc), f69.blk c hc]⟩
  have gg := g4.fr f4g
  refine cnd_of (fun c => ?_) fun c => ?_
  · simp only [decide_eq_true_eq, sn, gl, Int.ofNat_eq_natCast] at c
    have hkc : k < countV L := by omega
    have hkg : k < (groupsL L L.length).length := by omega
    refine gg.ix (by omega) (by omega) fun t rt => ?_
    have tl : t.n = ((groupsL L L.length).getD k []).length := by have := rt.ilen; rw [nats_len, Int.toNat_natCast] at this; omega
    have ek : w64 ((k : Int) + 1) = ((k + 1 : Nat) : Int) := by rw [w64, w64s (by omega)]
    have fin : ∀ (h17 : Hp) (x y : Int), h17.size = g.size → h17.blk h4.size = some (.cells [.int .i64 x, .int .i64 (countV L : Nat), .int .i64 y]) → (∀ c, c ≠ h4.size → h17.blk c = g.blk c) → rowG (groupsL L L.length) (k + 1) = (x, y) → Kr (w64 ((k : Int) + 1), ()) h17 := fun h17 x y zz bb kk er => by
      rw [ek]
      exact hKr hkc _ _ ⟨rfl, ⟨by omega, fun c hc ho => by rw [kk c (by omega), fg.blk c hc ho]⟩, by rw [bb, er]⟩
    have er := rowG_succ (groupsL L L.length) hkg
    refine ldI_of (by rw [cell_own bg]; rfl) (cnd_of (fun cc => ?_) fun cc => ?_)
    · simp only [decide_eq_true_eq, tl, Int.ofNat_eq_natCast] at cc
      refine stc_of bg (by simp) fun h13 z13 b13 k13 => ldI_of (by rw [cell_own b13]; rfl) (stc_of b13 (by simp) fun h15 z15 b15 k15 => ?_)
      simp only [List.set_cons_succ, List.set_cons_zero, tl, Int.ofNat_eq_natCast] at b15
      exact fin h15 _ _ (by omega) b15 (fun c hc => by rw [k15 _ hc, k13 _ hc]) (by rw [er, if_pos cc])
    · simp only [decide_eq_false_iff_not, tl, Int.ofNat_eq_natCast] at cc
      refine ldI_of (by rw [cell_own bg]; rfl) (stc_of bg (by simp) fun h15 z15 b15 k15 => ?_)
      simp only [List.set_cons_succ, List.set_cons_zero, tl, Int.ofNat_eq_natCast] at b15
      exact fin h15 _ _ (by omega) b15 k15 (by rw [er, if_neg cc])
  · simp only [decide_eq_false_iff_not, sn, gl, Int.ofNat_eq_natCast] at c
    obtain rfl : k = countV L := by omega
    have bb : g.blk h.size = some (.cells [.int .i64 0, .int .i64 0, .int .i64 0]) := by rw [f4g.blk _ (by omega), f4.blk _ (by omega), b2]
    refine ldI_of (by rw [cell_own bg]; rfl) (ldI_of (by rw [cell_own bg]; rfl) (ldI_of (by rw [cell_own bg]; rfl) (stc_of bb (by simp) fun h21 z21 b21 k21 => stc_of b21 (by simp) fun h22 z22 b22 k22 => stc_of b22 (by simp) fun h23 z23 b23 k23 => ?_)))
    simp only [List.set_cons_zero, List.set_cons_succ] at b23
    refine ldI_of (by rw [cell_own b23]; rfl) (ldI_of (by rw [cell_own b23]; rfl) (ldI_of (by rw [cell_own b23]; rfl) ?_))
    exact hK h23 L lc ⟨by omega, fun c hc => by rw [k23 _ (by omega), k22 _ (by omega), k21 _ (by omega), f4g.blk _ (by omega), f4.blk _ (by omega), f2.blk _ hc]⟩
end

end Go.Hx
