/- Tori by their edges' numbers; the first edge that wraps. No condition. -/
import Derived.Test.YtdponlecglgmbaaHxTorC
namespace Go.Hx
set_option linter.unusedSimpArgs false
set_option linter.unusedVariables false

/-- The edges of a torus, by their numbers. -/
def eR (w t : Nat) (E : List Nat) : ER := fun u v s q => ∃ e, e ∈ E ∧ u = e / 2 ∧ v = toV w t (e / 2) (e % 2) ∧ s = stX (e % 2) ∧ q = stY (e % 2)

theorem eR_nil (w t : Nat) : eR w t [] = fun _ _ _ _ => False := by
  funext u v s q
  exact propext ⟨fun ⟨e, he, _⟩ => (by cases he), fun h => h.elim⟩

theorem eR_congr {w t : Nat} {E E' : List Nat} (h : ∀ e, e ∈ E ↔ e ∈ E') : eR w t E = eR w t E' := by
  funext u v s q
  refine propext ⟨fun ⟨e, he, g⟩ => ⟨e, (h e).1 he, g⟩, fun ⟨e, he, g⟩ => ⟨e, (h e).2 he, g⟩⟩

theorem eR_mono {w t : Nat} {E E' : List Nat} (h : ∀ e, e ∈ E → e ∈ E') (u v : Nat) (s q : Int) (g : eR w t E u v s q) : eR w t E' u v s q := by
  obtain ⟨e, he, g⟩ := g
  exact ⟨e, h e he, g⟩

theorem addE_eR (w t : Nat) (E : List Nat) (e : Nat) : addE (eR w t E) (e / 2) (toV w t (e / 2) (e % 2)) (stX (e % 2)) (stY (e % 2)) = eR w t (e :: E) := by
  funext u v s q
  refine propext ⟨?_, ?_⟩
  · rintro (⟨f, hf, g⟩ | ⟨rfl, rfl, rfl, rfl⟩)
    · exact ⟨f, List.mem_cons_of_mem _ hf, g⟩
    · exact ⟨e, List.mem_cons_self, rfl, rfl, rfl, rfl⟩
  · rintro ⟨f, hf, g⟩
    rcases List.mem_cons.1 hf with rfl | hf
    · exact .inr g
    · exact .inl ⟨f, hf, g⟩

/-- The same, for the vertex and the direction. -/
theorem addE_vD (w t : Nat) (E : List Nat) (v D : Nat) (hD : D ≤ 1) : addE (eR w t E) v (toV w t v D) (stX D) (stY D) = eR w t ((2 * v + D) :: E) := by
  have h1 : (2 * v + D) / 2 = v := by omega
  have h2 : (2 * v + D) % 2 = D := by omega
  have := addE_eR w t E (2 * v + D)
  rw [h1, h2] at this
  exact this

/-- Some component wraps. -/
def wrapped (n : Nat) (R : ER) : Prop := ∃ v, v < n ∧ ∃ k, WrapC R v k

theorem wrapped_mono {n : Nat} {R R' : ER} (h : ∀ u v s t, R u v s t → R' u v s t) (g : wrapped n R) : wrapped n R' := by
  obtain ⟨v, hv, k, g⟩ := g
  exact ⟨v, hv, k, g.mono h⟩

theorem Add_e {h : Hp} {o : TOb} {w t : Nat} {E : List Nat} (d : TS h o w t (eR w t E)) (e : Nat) (he : e < 2 * (w * t)) (K : Bool → Int → Hp → Prop)
    (hK : ∀ h' b, TS h' o w t (eR w t (e :: E)) → FrO o h h' → (b = true ↔ ¬ Conn (eR w t E) (e / 2) (toV w t (e / 2) (e % 2))) → compN (w * t) (eR w t (e :: E)) + (if b then 1 else 0) = compN (w * t) (eR w t E) → K b 0 h') :
    g_wrapping_Torus_Add (some ⟨o.a, 0, none⟩) (e / 2 % w : Nat) (e / 2 / w : Nat) (e % 2 : Nat) h K := by
  obtain ⟨par, siz, M, W, a0, a1, cnt, L, lea, rk, P, d⟩ := d
  have hw1 := d.w1; have ht1 := d.t1
  have hv : e / 2 < w * t := by omega
  have hX : e / 2 % w < w := Nat.mod_lt _ (by omega)
  have hY : e / 2 / w < t := (Nat.div_lt_iff_lt_mul (by omega)).2 (by rw [Nat.mul_comm]; exact hv)
  have hvv : e / 2 / w * w + e / 2 % w = e / 2 := by rw [Nat.mul_comm]; exact Nat.div_add_mod _ _
  refine Add_spec d _ _ _ K (fun hb => absurd ⟨Int.natCast_nonneg _, Int.ofNat_lt.2 hX, Int.natCast_nonneg _, Int.ofNat_lt.2 hY⟩ hb) (fun _ hb => absurd (by omega) hb) fun X Y D hx hy hD _ _ _ h' b d' f' hb hc => ?_
  obtain rfl : e / 2 % w = X := Int.ofNat.inj hx
  obtain rfl : e / 2 / w = Y := Int.ofNat.inj hy
  obtain rfl : D = e % 2 := by omega
  rw [hvv] at d' hb hc
  rw [addE_eR] at d' hc
  exact hK h' b d' f' hb hc

/-- An order of edges: numbers of edges, each once. -/
def okOrd (n : Nat) (M : List Int) : Prop := (∀ i, i < M.length → 0 ≤ M.getD i 0 ∧ M.getD i 0 < 2 * (n : Int)) ∧ ∀ i j, i < j → j < M.length → M.getD i 0 ≠ M.getD j 0

/-- The first edges of an order. -/
def ordE (M : List Int) (k : Nat) : List Nat := (List.range k).map fun i => (M.getD i 0).toNat

theorem ordE_mem {M : List Int} {k e : Nat} : e ∈ ordE M k ↔ ∃ i, i < k ∧ (M.getD i 0).toNat = e := by simp [ordE]

theorem First_spec (x y : Int) (s : Sl) (M : List Int) (h : Hp) (K : Int → Bool → Int → Hp → Prop) (hr : Rd h 1 s (ints M)) (hb : ∀ i, i < M.length → -(2 ^ 63) ≤ M.getD i 0 ∧ M.getD i 0 < 2 ^ 63) (hl : M.length < 2 ^ 40)
    (hbad : ∀ h', Fr h.size h h' → ¬ goodT x y ∨ (∃ w t : Nat, x = w ∧ y = t ∧ ¬ okOrd (w * t) M) → K 0 false 2 h')
    (hno : ∀ h', Fr h.size h h' → ∀ w t : Nat, x = w → y = t → goodT x y → okOrd (w * t) M → ¬ wrapped (w * t) (eR w t (ordE M M.length)) → K 0 false 0 h')
    (hyes : ∀ h', Fr h.size h h' → ∀ w t k : Nat, x = w → y = t → goodT x y → okOrd (w * t) M → k < M.length → wrapped (w * t) (eR w t (ordE M (k + 1))) → ¬ wrapped (w * t) (eR w t (ordE M k)) → K ((k + 1 : Nat) : Int) true 0 h') :
    g_wrapping_First x y s h K := by
  have hsn : s.n = M.length := by have := hr.ilen; omega
  unfold g_wrapping_First
  refine New_spec _ _ _ _ (fun g => cnd_t rfl (hbad h (Fr.refl _ _) (.inl g))) fun w t hx hy g h3 o d hlo f3 => cnd_f rfl ?_
  subst hx hy
  have hw1 := d.w1; have ht1 := d.t1; have hn := d.wt
  have e1 : IntKind.i64.wrap (IntKind.i64.wrap (2 * (w : Int)) * t) = ((2 * (w * t) : Nat) : Int) := by
    have hwn : w ≤ w * t := Nat.le_mul_of_pos_right _ ht1
    rw [show (2 * (w : Int)) = ((2 * w : Nat) : Int) by omega, w64n (by omega), ← Int.natCast_mul, w64n (by rw [Nat.mul_assoc]; omega), Nat.mul_assoc]
  simp only [w64, e1]
  refine mks_of (by omega) (by omega) (by omega) fun h5 z5 b5 k5 => ?_
  rw [zrow_one, Int.toNat_natCast] at b5
  have b5 : h5.blk h3.size = some (.cells (bools (List.replicate (2 * (w * t)) false))) := by rw [b5]; simp [bools]
  have f5 : Fr h.size h h5 := ⟨by have := f3.size; omega, fun c hc => by have := f3.size; rw [k5 _ (by omega), f3.blk _ hc]⟩
  have d5 := d.fr (h' := h5) ⟨by omega, k5⟩
  rw [show (fun _ _ _ _ => False : ER) = eR w t [] from (eR_nil w t).symm] at d5
  refine jn_of (fun _ h7 => okOrd (w * t) M ∧ Fr h.size h h7 ∧ TS h7 o w t (eR w t [])) ?_ fun K8 hK8 => ?_
  case refine_2 =>
    refine for_of M.length (fun k (s : Int × Unit) g => s.1 = (k : Int) ∧ g.size = h5.size ∧ (∃ B : List Bool, B.length = 2 * (w * t) ∧ g.blk h3.size = some (.cells (bools B)) ∧ ∀ e, e < 2 * (w * t) → (B.getD e false = true ↔ ∃ i, i < k ∧ M.getD i 0 = (e : Int))) ∧ (∀ c, c ≠ h3.size → g.blk c = h5.blk c) ∧
      (∀ i, i < k → 0 ≤ M.getD i 0 ∧ M.getD i 0 < 2 * ((w * t : Nat) : Int)) ∧ ∀ i j, i < j → j < k → M.getD i 0 ≠ M.getD j 0) ?_ ⟨rfl, rfl, ⟨List.replicate (2 * (w * t)) false, by simp, b5, fun e he => ?_⟩, fun _ _ => rfl, fun i hi => by omega, fun i j _ hj => by omega⟩
    · rintro k Kr ⟨_, u⟩ g' hk ⟨rfl, zg, ⟨B, lB, gB, iff⟩, gk, rng, dis⟩ hKr
      have fg : Fr h.size h g' := ⟨by have := f5.size; omega, fun c hc => by have := f3.size; rw [gk _ (by omega), f5.blk _ hc]⟩
      refine cnd_of (fun c => ?_) fun c => ?_
      · simp only [decide_eq_true_eq, hsn, Int.ofNat_eq_natCast] at c
        have hkl : k < M.length := by omega
        refine ix_ld1 (hr.fr fg) (by omega) (by rw [hsn]; omega) rfl ?_
        rw [show Int.toNat (k : Int) = k from rfl]
        have nb : ∀ P : Prop, (okOrd (w * t) M → P) → (¬ okOrd (w * t) M → P) → P := fun P h1 h2 => Classical.byCases h1 h2
        refine cnd_of (fun c1 => hbad g' fg (.inr ⟨w, t, rfl, rfl, fun ok => ?_⟩)) fun c1 => cnd_of (fun c2 => hbad g' fg (.inr ⟨w, t, rfl, rfl, fun ok => ?_⟩)) fun c2 => ?_
        · have := ok.1 k hkl; simp only [decide_eq_true_eq] at c1; omega
        · have := ok.1 k hkl; simp only [decide_eq_true_eq, Int.toNat_natCast, Int.ofNat_eq_natCast] at c2; omega
        simp only [decide_eq_false_iff_not, Int.toNat_natCast, Int.ofNat_eq_natCast] at c1 c2
        obtain ⟨e, he⟩ : ∃ e : Nat, M.getD k 0 = (e : Int) := ⟨(M.getD k 0).toNat, by omega⟩
        have hel : e < 2 * (w * t) := by omega
        simp only [he]
        refine ix_of (by omega) (by simp only [Int.toNat_natCast]; omega) ?_
        simp only [add_mk, Nat.zero_add, Nat.add_zero, Nat.mul_one, show Int.toNat (e : Int) = e from rfl]
        refine ldB_of (by rw [cell_own gB, bools_get (by omega)]) (cnd_of (fun c3 => hbad g' fg (.inr ⟨w, t, rfl, rfl, fun ok => ?_⟩)) fun c3 => ix_of (by omega) (by simp only [Int.toNat_natCast]; omega) ?_)
        · obtain ⟨i, hi, e'⟩ := (iff e hel).1 c3
          exact ok.2 i k hi hkl (by rw [e', he])
        · simp only [add_mk, Nat.zero_add, Nat.add_zero]
          refine stc_of gB (by rw [bools_len]; omega) fun g2 z2 b2 k2 => hKr hkl _ _ ⟨?_, by omega, ⟨B.set e true, by simp [lB], by rw [b2, bools_set], fun f hf => ?_⟩, fun c hc => by rw [k2 _ hc, gk _ hc], fun i hi => ?_, fun i j hij hj => ?_⟩
          · simp only; rw [w64_eq (by omega) (by omega)]; omega
          · have : (B.set e true).getD f false = if e = f then true else B.getD f false := by
              simp only [List.getD, List.getElem?_set]
              by_cases q : e = f
              · subst q; simp [lB, hf]
              · simp [q]
            rw [this]
            by_cases q : e = f
            · subst q; simp only [if_true, true_iff]; exact ⟨k, by omega, he⟩
            · rw [if_neg q, iff f hf]
              constructor
              · intro ⟨i, hi, e'⟩; exact ⟨i, by omega, e'⟩
              · intro ⟨i, hi, e'⟩
                by_cases hik : i = k
                · subst hik; rw [he] at e'; omega
                · exact ⟨i, by omega, e'⟩
          · by_cases hik : i = k
            · subst hik; omega
            · exact rng i (by omega)
          · by_cases hjk : j = k
            · subst hjk
              intro e'
              have := (iff e hel).2 ⟨i, hij, by rw [e', he]⟩
              rw [c3] at this; cases this
            · exact dis i j hij (by omega)
      · simp only [decide_eq_false_iff_not, hsn, Int.ofNat_eq_natCast] at c
        have : k = M.length := by omega
        subst this
        refine hK8 _ _ ⟨⟨rng, dis⟩, fg, ?_⟩
        exact ⟨_, _, _, _, _, _, _, _, _, _, _, d5.keep (by omega) fun c hc1 hc2 => gk _ (by have := d.hi; omega)⟩
    · constructor
      · intro q
        simp only [List.getD, List.getElem?_replicate] at q
        split at q <;> cases q
      · intro ⟨i, hi, _⟩; omega
  rintro ⟨⟩ h7 ⟨ok, f7, d7⟩
  refine for_of M.length (fun k (s : Int × Unit) g => s.1 = (k : Int) ∧ Fr h.size h g ∧ TS g o w t (eR w t (ordE M k)) ∧ ¬ wrapped (w * t) (eR w t (ordE M k))) ?_ ⟨rfl, f7, d7, ?_⟩
  case refine_2 =>
    rintro ⟨v, _, k, xx, yy, hc, hne⟩
    have := (hc.pot k (fun _ => True) (fun _ => 0) (fun _ _ _ _ _ => Iff.rfl) (fun b c s q e => (by obtain ⟨f, hf, _⟩ := e; cases hf)) trivial).2
    omega
  rintro k Kr ⟨_, u⟩ g' hk ⟨rfl, fg, dg, nw⟩ hKr
  refine cnd_of (fun c => ?_) fun c => ?_
  · simp only [decide_eq_true_eq, hsn, Int.ofNat_eq_natCast] at c
    have hkl : k < M.length := by omega
    refine ix_ld1 (hr.fr fg) (by omega) (by rw [hsn]; omega) rfl ?_
    rw [show Int.toNat (k : Int) = k from rfl]
    have hr' := ok.1 k hkl
    obtain ⟨e, he⟩ : ∃ e : Nat, M.getD k 0 = (e : Int) := ⟨(M.getD k 0).toNat, by omega⟩
    have hel : e < 2 * (w * t) := by omega
    simp only [he]
    have t1 : IntKind.i64.wrap (Int.tdiv (e : Int) 2) = ((e / 2 : Nat) : Int) := by rw [Int.tdiv_eq_ediv_of_nonneg (by omega)]; rw [w64_eq (by omega) (by omega)]; omega
    have t2 : Int.tmod ((e / 2 : Nat) : Int) (w : Int) = ((e / 2 % w : Nat) : Int) := by rw [Int.tmod_eq_emod_of_nonneg (by omega), ← Int.natCast_emod]
    have t3 : IntKind.i64.wrap (Int.tdiv ((e / 2 : Nat) : Int) (w : Int)) = ((e / 2 / w : Nat) : Int) := by
      rw [Int.tdiv_eq_ediv_of_nonneg (by omega), ← Int.natCast_ediv, w64n]
      exact Nat.le_trans (Nat.div_le_self _ _) (by omega)
    have t4 : Int.tmod (e : Int) 2 = ((e % 2 : Nat) : Int) := by rw [Int.tmod_eq_emod_of_nonneg (by omega)]; omega
    simp only [t1, t2, t3, t4]
    refine ⟨by omega, by omega, by omega, by omega, by omega, ?_⟩
    refine Add_e dg e hel _ fun h16 b d16 f16 hb _ => ?_
    have hoE : eR w t (e :: ordE M k) = eR w t (ordE M (k + 1)) := eR_congr fun f => by
      rw [List.mem_cons, ordE_mem, ordE_mem]
      constructor
      · rintro (rfl | ⟨i, hi, q⟩)
        · exact ⟨k, by omega, by rw [he]; rfl⟩
        · exact ⟨i, by omega, q⟩
      · rintro ⟨i, hi, q⟩
        by_cases hik : i = k
        · subst hik; rw [he] at q; exact .inl (by rw [← q]; rfl)
        · exact .inr ⟨i, by omega, q⟩
    rw [hoE] at d16
    have d16' := d16
    obtain ⟨par, siz, M', W, a0, a1, cnt, L, lea, rk, P, d16⟩ := d16
    have fg' : Fr h.size h h16 := ⟨Nat.le_trans fg.size f16.size, fun c hc => by rw [f16.blk _ (by have := fg.size; omega) (.inl (by omega)), fg.blk _ hc]⟩
    have hall : (a0 = true ∨ a1 = true) ↔ wrapped (w * t) (eR w t (ordE M (k + 1))) := by
      constructor
      · rintro (q | q)
        · obtain ⟨v, hv, hw⟩ := (d16.inv.allW false).1 q
          exact ⟨v, hv, false, hw⟩
        · obtain ⟨v, hv, hw⟩ := (d16.inv.allW true).1 q
          exact ⟨v, hv, true, hw⟩
      · rintro ⟨v, hv, kk, hw⟩
        have := (d16.inv.allW kk).2 ⟨v, hv, hw⟩
        cases kk
        · exact .inl this
        · exact .inr this
    refine nn_of ?_
    simp only [add_mk]
    refine ldB_of (by rw [d16.cell]; rfl) (ldB_of (by rw [d16.cell]; rfl) (cnd_of (fun c4 => ?_) fun c4 => ?_))
    · have q := hyes h16 fg' w t k rfl rfl g ok hkl (hall.1 (by revert c4; cases a0 <;> cases a1 <;> simp)) nw
      have ek : IntKind.i64.wrap ((k : Int) + 1) = ((k + 1 : Nat) : Int) := by rw [w64_eq (by omega) (by omega)]; omega
      rw [ek]; exact q
    · refine hKr hkl _ _ ⟨?_, fg', d16', fun q => ?_⟩
      · simp only; rw [w64_eq (by omega) (by omega)]; omega
      · have := hall.2 q
        revert c4 this; cases a0 <;> cases a1 <;> simp
  · simp only [decide_eq_false_iff_not, hsn, Int.ofNat_eq_natCast] at c
    have : k = M.length := by omega
    subst this
    exact hno g' fg w t rfl rfl g ok nw

end Go.Hx
