/- Link-cut forests: splay, whole. No condition. -/
import Derived.Test.YtjpmgekdgpkcfaaHxLctE
namespace Go.Hx
set_option linter.unusedSimpArgs false
set_option linter.unusedVariables false

section
variable {h : Hp} {a b n : Nat} {N : NN} {tr : Int}

set_option maxHeartbeats 1000000 in
theorem splay_spec (d : FS h a b n N tr) {T : Tr} {pp : Int} {v : Nat} (t : TT n N T pp) (hvT : v ∈ T.seq) (K : Hp → Prop)
    (hK : ∀ h' N' l r, FS h' a b n N' tr → FrB a b h h' → TT n N' (.nd l v r) pp → (Tr.nd l v r).seq = T.seq → (N' v).rev = false → Out N N' T.seq → K h') : g_lct_Forest_splay (some ⟨a, 0, none⟩) (v : Int) h K := by
  have hn := d.hn
  have la := d.la; have lb := d.lb
  obtain ⟨l, r, c, hT⟩ := find_plug hvT
  obtain ⟨W, hW⟩ : ∃ W, W = wayL v c := ⟨_, rfl⟩
  have lW : W.length = c.length + 1 := by rw [hW]; simp [wayL]
  have W0 : gt W 0 = v := by rw [hW]; rfl
  have wp : ∀ j, j < W.length → ∃ l' r', T = plug (.nd l' (gt W j) r') (c.drop j) := fun j hj => by
    rw [hW] at hj ⊢
    obtain ⟨l', r', e⟩ := way_plug (l := l) (r := r) hj
    exact ⟨l', r', hT.trans e⟩
  have wT : ∀ j, j < W.length → gt W j ∈ T.seq := fun j hj => by
    obtain ⟨l', r', e⟩ := wp j hj
    rw [e]; exact (mem_plug _ _ _).2 (.inl (by simp [Tr.seq]))
  have wn : ∀ j, j < W.length → gt W j < n := fun j hj => t.lt _ (wT j hj)
  have hlen : W.length ≤ n := by
    have h1 := t.len
    have h2 : W.length ≤ T.seq.length := by
      have e := (seqc_perm (Tr.nd l v r).seq c).length_eq
      rw [hT, seq_plug, e, lW, List.length_append]
      have : ∀ c : Cx, c.length ≤ (cnodes c).length := fun c => by
        induction c with
        | nil => simp
        | cons f c ih => simp only [cnodes, List.flatMap_cons, List.length_append, List.length_cons] at *; omega
      have := this c
      simp [Tr.seq]; omega
    omega
  unfold g_lct_Forest_splay
  refine alo_of fun h2 z2 b2 k2 => alo_of fun h4 z4 b4 k4 => ?_
  have f4 : Fr h.size h h4 := ⟨by omega, fun y hy => by rw [k4 _ (by omega), k2 _ hy]⟩
  have p4 : h4.blk h.size = some (.cells [.pointer (some ⟨a, 0, none⟩)]) := (k4 _ (by omega)).trans b2
  have lp : ∀ {g : Hp} {X : Option Addr → Prop}, g.blk h.size = some (.cells [.pointer (some ⟨a, 0, none⟩)]) → X (some ⟨a, 0, none⟩) → ldP g ⟨h.size, 0, none⟩ X := fun {g X} hg hX => ldP_of (by rw [cell_own hg]; rfl) hX
  refine jn_of (fun s g => Lst g 1 s.1 (ints (nats W)) h2.size ∧ Fr h2.size h4 g) ?_ fun K7 hK7 => ?_
  case refine_2 =>
    refine for_of c.length (fun i (st : Sl × Int × Unit) g => st.2.1 = ((gt W i : Nat) : Int) ∧ Lst g 1 st.1 (ints (nats (W.take (i + 1)))) h2.size ∧ Fr h2.size h4 g) ?_ ⟨by rw [W0], ?_, Fr.refl _ _⟩
    · rintro i Kr ⟨s, u, x⟩ g hi ⟨hu, lg, fg⟩ hKr
      simp only at hu lg
      subst hu
      have hiW : i < W.length := by omega
      have dg : FS g a b n N tr := d.keep (by have := fg.size; omega) (by rw [fg.blk _ (by omega), f4.blk _ la]) (by rw [fg.blk _ (by omega), f4.blk _ lb])
      have pg : g.blk h.size = some (.cells [.pointer (some ⟨a, 0, none⟩)]) := (fg.blk _ (by omega)).trans p4
      obtain ⟨l', r', e⟩ := wp i hiW
      refine lp pg (top_spec dg (wn i hiW) (t.inU e) _ fun x hx => cnd_of (fun cc => ?_) fun cc => ?_)
      · have hne : c.drop i ≠ [] := fun q => by rw [hx.2 ((t.top e).2 q)] at cc; cases cc
        have hic : i < c.length := by
          rcases Nat.lt_or_ge i c.length with q | q
          · exact q
          · exact absurd (List.drop_eq_nil_of_le q) hne
        have up : (N (gt W i)).up = ((gt W (i + 1) : Nat) : Int) := by
          have h1 := t.rs
          rw [hT] at h1
          rw [hW] at hiW ⊢
          exact way_up h1 (by rw [← hW, lW]; omega)
        have sn : s.n = i + 1 := by have := lg.1; rw [ints_len, nats_len, List.length_take] at this; omega
        refine lp pg (dg.nd (wn i hiW) (K := fun a61 => ldI .i64 g ((a61.add (Int.toNat ((gt W i : Nat) : Int) * 9)).add 0) _) ?_)
        simp only [add_mk, Nat.zero_add, Int.toNat_natCast, Nat.add_zero]
        refine dg.ldU (wn i hiW) rfl ?_
        rw [up]
        have z4' := fg.size
        refine app1_spec lg (by omega) (by omega) fun s' h' l' z' k' => ?_
        have fr' : Fr h2.size h4 h' := ⟨by omega, fun y hy => by rw [(k' y (by omega) fun x hx => by have := (lg.blk_lt hx).1; omega).1, fg.blk y hy]⟩
        have d' : FS h' a b n N tr := d.keep (by omega) (by rw [fr'.blk _ (by omega), f4.blk _ la]) (by rw [fr'.blk _ (by omega), f4.blk _ lb])
        refine lp ((fr'.blk _ (by omega)).trans p4) (d'.nd (wn i hiW) (K := fun a61 => ldI .i64 h' ((a61.add (Int.toNat ((gt W i : Nat) : Int) * 9)).add 0) _) ?_)
        simp only [add_mk, Nat.zero_add, Int.toNat_natCast, Nat.add_zero]
        refine d'.ldU (wn i hiW) rfl (hKr hic _ _ ⟨up, ?_, fr'⟩)
        have tk : W.take (i + 1 + 1) = W.take (i + 1) ++ [gt W (i + 1)] := by
          rw [List.take_succ_eq_append_getElem (by omega)]; simp [gt, List.getD, List.getElem?_eq_getElem (show i + 1 < W.length by omega)]
        rw [tk, nats_app]; exact l'
      · have : c.drop i = [] := (t.top e).1 (hx.1 (by simpa using cc))
        have hic : c.length ≤ i := by
          have := congrArg List.length this; rw [List.length_drop, List.length_nil] at this; omega
        obtain rfl : i = c.length := by omega
        refine hK7 _ _ ⟨?_, fg⟩
        rw [List.take_of_length_le (by omega)] at lg; exact lg
    · have : W.take (0 + 1) = [v] := by rw [hW]; rfl
      rw [this]
      exact ⟨by simp [ints, nats], Nat.le_refl _, .inr ⟨h2.size, [], rfl, Nat.le_refl _, by omega, by rw [b4]; simp [ints, nats], by simp [ints, nats]⟩⟩
  rintro ⟨s, u⟩ h6 ⟨l6, f6⟩
  simp only at l6
  have z6 := f6.size
  have sn : s.n = W.length := by have := l6.1; rw [ints_len, nats_len] at this; omega
  unfold g_slices_Backward_int
  refine alo_of fun h9 z9 b9 k9 => fun rec => ?_
  obtain ⟨H0, hH0⟩ : ∃ H0, H0 = (h9.pushB none).pushB (some (.lp rec)) := ⟨_, rfl⟩
  have HK : ∀ y, y < h9.size → H0.blk y = h9.blk y := fun y hy => by
    rw [hH0]; simp only [Hp.pushB, if_neg (show ¬ y = h9.size + 1 by omega), if_neg (show ¬ y = h9.size by omega)]
  have HL : H0.blk (h9.size + 1) = some (.lp rec) := by rw [hH0]; simp [Hp.pushB]
  have HS : H0.size = h9.size + 2 := by rw [hH0]; rfl
  rw [← hH0]
  have kh : ∀ y, y < h.size → H0.blk y = h.blk y := fun y hy => by rw [HK _ (by omega), k9 _ (by omega), f6.blk _ (by omega), f4.blk _ hy]
  have p0 : H0.blk h.size = some (.cells [.pointer (some ⟨a, 0, none⟩)]) := by rw [HK _ (by omega), k9 _ (by omega), f6.blk _ (by omega), p4]
  have s0 : H0.blk h6.size = some (.cells [.slice s.a s.n s.c]) := by rw [HK _ (by omega), b9]
  have l0 : Lst H0 1 s (ints (nats W)) h2.size := l6.keep (by omega) fun x hx => by have := (l6.blk_lt hx).2.1; rw [HK _ (by omega), k9 _ (by omega)]
  have d0 : FS H0 a b n N tr := d.keep (by omega) (kh a la) (kh b lb)
  refine backward_spec (s := s) (M := nats W) (by rw [nats_len]; omega) (fun k g => k ≤ W.length ∧ ∃ N', FS g a b n N' tr ∧ TT n N' T pp ∧ Out N N' T.seq ∧ H0.size ≤ g.size ∧ (∀ y, y < H0.size → y ≠ a → y ≠ b → g.blk y = H0.blk y) ∧ ∀ j, W.length - k ≤ j → j < W.length → (N' (gt W j)).rev = false) (by rw [nats_len]; exact sn) ?_ ?_ ?_ ?_
  · rintro k g ⟨hk, N', dg, tg, og, zg, kg, rg⟩
    refine ⟨by rw [cell_own ((kg _ (by omega) (by omega) (by omega)).trans s0)]; rfl, (l0.keep zg fun x hx => ?_).rd⟩
    have := l0.blk_lt hx
    exact kg _ this.2.1 (by omega) (by omega)
  · rintro k g Kr hk ⟨_, N', dg, tg, og, zg, kg, rg⟩ hKr
    rw [nats_len] at hk ⊢
    rw [nats_getD]
    obtain ⟨j, hj⟩ : ∃ j, j = W.length - 1 - k := ⟨_, rfl⟩
    rw [← hj]
    have hjW : j < W.length := by omega
    have lpr : g.blk (h9.size + 1) = some (.lp rec) := by rw [kg _ (by omega) (by omega) (by omega), HL]
    show lpIs g (h9.size + 1) rec (lpIs g (h9.size + 1) rec (lpSet g (h9.size + 1) (bsy rec) _))
    refine ⟨lpr, lpr, ?_⟩
    unfold lpSet
    obtain ⟨g1, g1e⟩ : ∃ g1, g1 = g.upd (h9.size + 1) (some (.lp (bsy rec))) := ⟨_, rfl⟩
    rw [← g1e]
    have z1 : g1.size = g.size := by rw [g1e]; rfl
    have k1 : ∀ y, y ≠ h9.size + 1 → g1.blk y = g.blk y := fun y hy => by rw [g1e]; simp only [Hp.upd]; rw [if_neg hy]
    have l1 : g1.blk (h9.size + 1) = some (.lp (bsy rec)) := by rw [g1e]; simp [Hp.upd]
    refine lp ((k1 _ (by omega)).trans ((kg _ (by omega) (by omega) (by omega)).trans p0)) ?_
    show g_lct_Forest_push (some ⟨a, 0, none⟩) ((gt W j : Nat) : Int) g1 _
    obtain ⟨l', r', e⟩ := wp j hjW
    have d1 : FS g1 a b n N' tr := dg.keep (by omega) (k1 _ (by omega)) (k1 _ (by omega))
    refine push_TT d1 (e ▸ tg) _ fun g2 N2 d2 f2 z2' t2 o2 r2 rc2 => ?_
    rw [← e] at t2 o2
    refine ⟨(f2.blk _ (by omega) (by omega) (by omega)).trans l1, ?_⟩
    obtain ⟨g3, g3e⟩ : ∃ g3, g3 = g2.upd (h9.size + 1) (some (.lp rec)) := ⟨_, rfl⟩
    have z3 : g3.size = g2.size := by rw [g3e]; rfl
    have k3 : ∀ y, y ≠ h9.size + 1 → g3.blk y = g2.blk y := fun y hy => by rw [g3e]; simp only [Hp.upd]; rw [if_neg hy]
    have l3 : g3.blk (h9.size + 1) = some (.lp rec) := by rw [g3e]; simp [Hp.upd]
    show Kr true (g2.upd (h9.size + 1) (some (.lp rec)))
    rw [← g3e]
    refine hKr g3 ⟨by omega, N2, d2.keep (by omega) (k3 _ (by omega)) (k3 _ (by omega)), t2, og.trans o2, by omega, fun y hy h1 h2 => ?_, fun i hi hiW => ?_⟩
    · by_cases q : y = h9.size + 1
      · rw [q, l3, HL]
      · rw [k3 _ q, f2.blk _ (by omega) h1 h2, k1 _ q, kg _ hy h1 h2]
    · by_cases q : i = j
      · rw [q]; exact r2
      · rw [rc2 _ (by rw [hW] at hiW ⊢; exact way_mem (by omega) hiW)]
        exact rg i (by omega) hiW
  · rintro g ⟨_, N', dg, tg, og, zg, kg, rg⟩
    rw [nats_len] at rg
    have lpr : g.blk (h9.size + 1) = some (.lp rec) := by rw [kg _ (by omega) (by omega) (by omega), HL]
    refine ⟨lpr, ?_⟩
    unfold lpSet
    obtain ⟨g1, g1e⟩ : ∃ g1, g1 = g.upd (h9.size + 1) (some (.lp (exh rec))) := ⟨_, rfl⟩
    rw [← g1e]
    have z1 : g1.size = g.size := by rw [g1e]; rfl
    have k1 : ∀ y, y ≠ h9.size + 1 → g1.blk y = g.blk y := fun y hy => by rw [g1e]; simp only [Hp.upd]; rw [if_neg hy]
    have d1 : FS g1 a b n N' tr := dg.keep (by omega) (k1 _ (by omega)) (k1 _ (by omega))
    have hc : ∀ f, f ∈ c → (N' f.2.1).rev = false := fun f hf => by
      obtain ⟨i, hi, e⟩ := List.getElem_of_mem hf
      have : gt W (i + 1) = f.2.1 := by rw [hW, ← e]; simp [wayL, gt, List.getD, List.getElem?_map, List.getElem?_eq_getElem hi]
      rw [← this]; exact rg (i + 1) (by omega) (by omega)
    have hv0 : (N' v).rev = false := by rw [← W0]; exact rg 0 (by omega) (by omega)
    have tg' : TT n N' (plug (.nd l v r) c) pp := hT ▸ tg
    refine turn_spec d1 tg' hv0 hc ((k1 _ (by omega)).trans ((kg _ (by omega) (by omega) (by omega)).trans p0)) (by omega) (by omega) (by omega) K fun h' N2 l2 r2 d2 f2 z2' t2 s2 rv2 o2 => ?_
    rw [← hT] at s2 o2
    refine hK h' N2 l2 r2 d2 ⟨by omega, fun y hy h1 h2 => ?_⟩ t2 s2 rv2 (og.trans o2)
    rw [f2.blk _ (by omega) h1 h2, k1 _ (by omega), kg _ (by omega) h1 h2, kh _ hy]
  · exact ⟨by omega, N, d0, t, Out.refl _ _, Nat.le_refl _, fun _ _ _ _ => rfl, fun j h1 h2 => by omega⟩
end

end Go.Hx
