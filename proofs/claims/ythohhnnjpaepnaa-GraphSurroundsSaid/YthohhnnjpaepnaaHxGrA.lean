/- Building graphs, over the abstract heap. No condition. -/
import Derived.Test.YthohhnnjpaepnaaHxDefs
import Derived.Test.YthohhnnjpaepnaaHxClone
import Derived.Test.YthohhnnjpaepnaaHxGrT
namespace Go.Hx
set_option linter.unusedSimpArgs false
set_option linter.unusedVariables false

theorem w64k {n : Nat} (h : n ≤ 2 ^ 60) : IntKind.i64.wrap (n : Int) = n := w64_eq (by omega) (by omega)
theorem w64s {n : Nat} (h : n < 2 ^ 60) : IntKind.i64.wrap ((n : Int) + 1) = ((n + 1 : Nat) : Int) := by rw [w64_eq (by omega) (by omega)]; omega

/-- The three numbers of an edge. -/
theorem rd3 {h : Hp} {s : Sl} {M : List Int} {i : Nat} (r : Rd h 3 s (ints M)) (hi : i < s.n) {K : Int → Int → Int → Prop} (H : K (M.getD (i * 3 + 0) 0) (M.getD (i * 3 + 1) 0) (M.getD (i * 3 + 2) 0)) :
    ix s.a s.n (i : Int) fun a => ldI .i64 h (((a.add (Int.toNat (i : Int) * 3))).add 0) fun x => ldI .i64 h (((a.add (Int.toNat (i : Int) * 3))).add 1) fun y => ldI .i64 h (((a.add (Int.toNat (i : Int) * 3))).add 2) fun z => K x y z := by
  refine ix_rd r (by omega) (by omega) (by omega) fun a ha hc => ?_
  simp only [add_add _ _ _ ha]
  exact ldI_of (hc 0 (by omega)) (ldI_of (hc 1 (by omega)) (ldI_of (hc 2 (by omega)) H))

/-- One number of an edge. -/
theorem rd3k {h : Hp} {s : Sl} {M : List Int} {i k : Nat} (r : Rd h 3 s (ints M)) (hi : i < s.n) (hk : k < 3) {K : Int → Prop} (H : K (M.getD (i * 3 + k) 0)) :
    ix s.a s.n (i : Int) fun a => ldI .i64 h ((a.add (Int.toNat (i : Int) * 3)).add k) K := by
  refine ix_rd r (by omega) (by omega) (by omega) fun a ha hc => ?_
  simp only [add_add _ _ _ ha]
  exact ldI_of (hc k hk) H

/-- A variable for an edge. -/
theorem tmp3 {h : Hp} {x y z : Value} {K : Addr → Hp → Prop} (H : ∀ h3 : Hp, h3.size = h.size + 1 → h3.blk h.size = some (.cells [x, y, z]) → (∀ c, c < h.size → h3.blk c = h.blk c) → K ⟨h.size, 0, none⟩ h3) :
    alo h [.int .i64 0, .int .i64 0, .int .i64 0] fun a => fun h0 => stc h0 (a.add 0) x fun h1 => stc h1 (a.add 1) y fun h2 => stc h2 (a.add 2) z fun h3 => K a h3 := by
  refine alo_of fun h0 z0 b0 k0 => ?_
  simp only [add_mk, Nat.zero_add]
  refine stc_of b0 (by simp) fun h1 z1 b1 k1 => stc_of b1 (by simp) fun h2 z2 b2 k2 => stc_of b2 (by simp) fun h3 z3 b3 k3 => H h3 (by omega) (by simpa using b3) fun c hc => ?_
  rw [k3 _ (by omega), k2 _ (by omega), k1 _ (by omega), k0 _ hc]

theorem gNew_check (n : Int) (s : Sl) (M : List Int) (h : Hp) (hr : Rd h 3 s (ints M)) (K : Option Addr → Int → Hp → Prop) (hbad : ∀ e h', Fr h.size h h' → GErr n s.n M e → K none e h')
    (hok : ∀ h', Fr h.size h h' → GOk n s.n M → g_slices_Clone_api_Edge s h' fun r4 h5 => g_graph_build n r4 h5 fun r6 h7 => K r6 0 h7) : g_graph_New n s h K := by
  unfold g_graph_New
  refine cnd_of (fun c => hbad _ _ (Fr.refl _ _) (.inl ⟨rfl, ?_⟩)) fun c1 => cnd_of (fun c => hbad _ _ (Fr.refl _ _) (.inl ⟨rfl, ?_⟩)) fun c2 => cnd_of (fun c => hbad _ _ (Fr.refl _ _) (.inl ⟨rfl, ?_⟩)) fun c3 => ?_
  all_goals simp only [decide_eq_true_eq, decide_eq_false_iff_not, Int.ofNat_eq_natCast] at *
  · omega
  · omega
  · omega
  have g0 : 0 ≤ n ∧ n ≤ 4096 ∧ s.n ≤ 16384 := by omega
  refine jn_of (fun _ h2 => Fr h.size h h2 ∧ GOk n s.n M) (fun _ h2 ⟨f, g⟩ => hok h2 f g) fun K3 hK3 => ?_
  refine for_of s.n (fun i (st : Int × Unit) g => st.1 = (i : Int) ∧ Fr h.size h g ∧ ∀ j, j < i → okE n M j) ?_ ⟨rfl, Fr.refl _ _, fun j hj => by omega⟩
  rintro i Kr ⟨st, u⟩ g hi ⟨rfl, fg, hj⟩ hKr
  refine cnd_of (fun c => ?_) fun c => ?_
  · simp only [decide_eq_true_eq] at c
    have hin : i < s.n := by omega
    refine rd3 (hr.fr fg) hin (tmp3 fun h3 z3 b3 k3 => ?_)
    have f3 : Fr h.size h h3 := ⟨by have := fg.size; omega, fun c hc => by rw [k3 _ (by have := fg.size; omega), fg.blk _ hc]⟩
    simp only [add_mk, Nat.zero_add]
    have er : outE n M i → K none 3 h3 := fun q => hbad 3 h3 f3 (.inr ⟨g0, i, hin, hj, .inl ⟨rfl, q⟩⟩)
    refine ldI_of (by rw [cell_own b3]; rfl) (cnd_of (fun c1 => er fun q => ?_) fun c1 => ldI_of (by rw [cell_own b3]; rfl) (cnd_of (fun c2 => er fun q => ?_) fun c2 => ldI_of (by rw [cell_own b3]; rfl) (cnd_of (fun c3 => er fun q => ?_) fun c3 => ldI_of (by rw [cell_own b3]; rfl) (cnd_of (fun c4 => er fun q => ?_) fun c4 =>
      ldI_of (by rw [cell_own b3]; rfl) (ldI_of (by rw [cell_own b3]; rfl) (cnd_of (fun c5 => ?_) fun c5 => hKr hin _ _ ⟨?_, f3, fun j hj' => ?_⟩))))))
    all_goals simp only [decide_eq_true_eq, decide_eq_false_iff_not, beq_iff_eq, beq_eq_false_iff_ne] at *
    · omega
    · omega
    · omega
    · omega
    · refine hbad 9 h3 f3 (.inr ⟨g0, i, hin, hj, .inr ⟨rfl, fun q => q ⟨by omega, by omega, by omega, by omega⟩, fun q => q.2 c5⟩⟩)
    · rw [w64, w64_eq (by omega) (by omega)]; omega
    · by_cases e : j = i
      · subst e; exact ⟨⟨by omega, by omega, by omega, by omega⟩, c5⟩
      · exact hj j (by omega)
  · simp only [decide_eq_false_iff_not, Int.ofNat_eq_natCast] at c
    obtain rfl : i = s.n := by omega
    exact hK3 _ _ ⟨fg, g0.1, g0.2.1, g0.2.2, hj⟩

theorem CloneE_spec {h : Hp} {s : Sl} {M : List Int} (hr : Rd h 3 s (ints M)) (hn : s.n < 2 ^ 40) (K : Sl → Hp → Prop) (hK : ∀ s' h', s'.n = s.n → Lst h' 3 s' (ints M) h.size → Fr h.size h h' → K s' h') :
    g_slices_Clone_api_Edge s h K := by
  unfold g_slices_Clone_api_Edge
  refine cnd_of (fun c => ?_) fun c => ?_
  · have hM : M = [] ∧ s.n = 0 := by
      have h1 := hr.1
      cases ha : s.a with
      | some a => rw [ha] at c; cases c
      | none =>
        rw [ha] at h1
        by_cases hz : s.n * 3 = 0
        · exact ⟨List.eq_nil_of_length_eq_zero (by rw [hr.ilen]; exact hz), by omega⟩
        · obtain ⟨x, hx, -⟩ := seg_some h1 (by omega); cases hx
    obtain ⟨rfl, e⟩ := hM
    exact hK _ _ e.symm (Lst.nil _ _ _) (Fr.refl _ _)
  · refine alo_of fun h1 z1 b1 k1 => ?_
    have f1 : Fr h.size h h1 := ⟨by omega, k1⟩
    have L1 : Lst h1 3 ⟨some ⟨h.size, 0, none⟩, 0, 0⟩ [] h.size := ⟨by simp, Nat.le_refl _, .inr ⟨h.size, [], rfl, Nat.le_refl _, by omega, b1, rfl⟩⟩
    refine app_lst L1 f1.size (hr.fr f1).1 (ints_one _) rfl (by simp only; omega) (by simp only; omega) fun s' h2 hl2 hn' _ f2 _ _ => hK _ _ (by simp only at hn'; omega) hl2 (f1.trans f2)

/-! ### The half-edges -/

def VX (M : List Int) (m : Nat) : List Nat := (List.range (2 * m)).map fun j => if j % 2 = 0 then eU M (j / 2) else eV M (j / 2)
theorem VX_len (M : List Int) (m : Nat) : (VX M m).length = 2 * m := by simp [VX]
theorem VX_gt {M : List Int} {m j : Nat} (h : j < 2 * m) : gt (VX M m) j = if j % 2 = 0 then eU M (j / 2) else eV M (j / 2) := by
  simp [gt, VX, List.getD, List.getElem?_map, List.getElem?_range h]
theorem VX_u {M : List Int} {m i : Nat} (h : i < m) : gt (VX M m) (2 * i) = eU M i := by
  rw [VX_gt (by omega), if_pos (by omega), show 2 * i / 2 = i by omega]
theorem VX_v {M : List Int} {m i : Nat} (h : i < m) : gt (VX M m) (2 * i + 1) = eV M i := by
  rw [VX_gt (by omega), if_neg (by omega), show (2 * i + 1) / 2 = i by omega]
/-- The other end. -/
def VO (M : List Int) (j : Nat) : Nat := if j % 2 = 0 then eV M (j / 2) else eU M (j / 2)

structure GOb where
  a : Nat
  e : Sl
  f : Nat
  x : Nat
  lo : Nat
  hi : Nat

structure GS (h : Hp) (o : GOb) (n m : Nat) (M : List Int) : Prop where
  hd : h.blk o.a = some (.cells [.bool true, .int .i64 (n : Nat), .slice o.e.a o.e.n o.e.c, .slice (some ⟨o.f, 0, none⟩) (n + 1) (n + 1), .slice (some ⟨o.x, 0, none⟩) (2 * m) (2 * m)])
  le : Lst h 3 o.e (ints M) o.lo
  en : o.e.n = m
  ok : GOk (n : Int) m M
  fr' : ∃ F : List Nat, F.length = n + 1 ∧ h.blk o.f = some (.cells (ints (nats F))) ∧ ∀ v, v ≤ n → gt F v = atp (VX M m) v
  ed' : ∃ N : List Int, N.length = 2 * (2 * m) ∧ h.blk o.x = some (.cells (ints N)) ∧ ∀ j, j < 2 * m → N.getD (pos (VX M m) j * 2) 0 = ((j / 2 : Nat) : Int) ∧ N.getD (pos (VX M m) j * 2 + 1) 0 = ((VO M j : Nat) : Int)
  ia : o.lo ≤ o.a ∧ o.a < o.hi
  if' : o.lo ≤ o.f ∧ o.f < o.hi
  ix' : o.lo ≤ o.x ∧ o.x < o.hi
  ie : ∀ x, o.e.a = some x → x.block < o.hi
  hi : o.hi ≤ h.size

theorem GS.keep {h h' : Hp} {o : GOb} {n m : Nat} {M : List Int} (d : GS h o n m M) (hz : h.size ≤ h'.size) (hb : ∀ c, o.lo ≤ c → c < o.hi → h'.blk c = h.blk c) : GS h' o n m M := by
  obtain ⟨F, f1, f2, f3⟩ := d.fr'
  obtain ⟨N, n1, n2, n3⟩ := d.ed'
  exact ⟨(hb _ d.ia.1 d.ia.2).trans d.hd, d.le.keep hz fun x hx => hb _ (d.le.blk_lt hx).1 (d.ie x hx), d.en, d.ok, ⟨F, f1, (hb _ d.if'.1 d.if'.2).trans f2, f3⟩, ⟨N, n1, (hb _ d.ix'.1 d.ix'.2).trans n2, n3⟩, d.ia, d.if', d.ix', d.ie, Nat.le_trans d.hi hz⟩

theorem GS.fr {h h' : Hp} {o : GOb} {n m : Nat} {M : List Int} (d : GS h o n m M) (f : Fr h.size h h') : GS h' o n m M := d.keep f.size fun c _ hc => f.blk c (by have := d.hi; omega)

theorem GS.cell {h : Hp} {o : GOb} {n m : Nat} {M : List Int} (d : GS h o n m M) (k : Nat) : h.cell ⟨o.a, k, none⟩ = [Value.bool true, .int .i64 (n : Nat), .slice o.e.a o.e.n o.e.c, .slice (some ⟨o.f, 0, none⟩) (n + 1) (n + 1), .slice (some ⟨o.x, 0, none⟩) (2 * m) (2 * m)][k]? := cell_own d.hd k

theorem cnt2 {p : Nat → Bool} (i : Nat) : cntB (2 * (i + 1)) p = cntB (2 * i) p + (if p (2 * i) then 1 else 0) + (if p (2 * i + 1) then 1 else 0) := by
  rw [show 2 * (i + 1) = 2 * i + 1 + 1 by omega, cntB_succ, cntB_succ]

end Go.Hx
