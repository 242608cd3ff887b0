/- Link-cut forests: Link. No condition. -/
import Derived.Test.YtjpmgekdgpkcfaaHxLctJ
import Derived.Test.YtjpmgekdgpkcfaaHxLctL
namespace Go.Hx
set_option linter.unusedSimpArgs false
set_option linter.unusedVariables false

theorem linkP_Ed {pa : Nat → Int} {x y : Nat} (h : pa x = -1) (p q : Nat) : Ed (linkP pa x y) p q ↔ Ed pa p q ∨ (p = x ∧ q = y) ∨ (p = y ∧ q = x) := by
  unfold Ed linkP
  by_cases h1 : p = x
  · by_cases h2 : q = x
    · rw [if_pos h1, if_pos h2, h1, h2, h]; omega
    · rw [if_pos h1, if_neg h2, h1, h]; omega
  · by_cases h2 : q = x
    · rw [if_neg h1, if_pos h2, h2, h]; omega
    · rw [if_neg h1, if_neg h2]; omega

/-- A root's tree that a turn elsewhere leaves. -/
theorem LF.stay {n : Nat} {N1 N2 : NN} {pa1 pa2 : Nat → Int} {T1 T2 : Tr} {G1 G2 : List (Tr × Int)} (d1 : LF n N1 pa1 ((T1, -1) :: G1)) (d2 : LF n N2 pa2 ((T2, -1) :: G2)) (old : ∀ t, (t, (-1 : Int)) ∈ G2 → (t, (-1 : Int)) ∈ (T1, (-1 : Int)) :: G1) (same : ∀ w, w ∉ T2.seq → pa2 w = pa1 w)
    (dis : ∀ w, w ∈ T1.seq → w ∉ T2.seq) : (T1, (-1 : Int)) ∈ G2 := by
  have hne := d1.ne _ (List.mem_cons_self ..)
  obtain ⟨w, ws, hw⟩ : ∃ w ws, T1.seq = w :: ws := by
    cases hq : T1.seq with
    | nil => have := (LF.rt_in hne).1; rw [hq] at this; cases this
    | cons w ws => exact ⟨w, ws, rfl⟩
  have hwT : w ∈ T1.seq := by rw [hw]; simp
  have p1 : pa1 w = -1 := by
    have := d1.pc _ (List.mem_cons_self ..)
    simp only [hw] at this; exact this.1
  have p2 : pa2 w = -1 := (same w (dis w hwT)).trans p1
  obtain ⟨⟨t, q⟩, hf, hm⟩ := (d2.cov w).1 ((d1.cov w).2 ⟨_, List.mem_cons_self .., hwT⟩)
  obtain ⟨rfl, _⟩ := chn_first (d2.pc _ hf) hm p2
  have hG : (t, (-1 : Int)) ∈ G2 := by
    rcases List.mem_cons.1 hf with e | e
    · simp only [Prod.mk.injEq] at e
      rw [e.1] at hm; exact absurd hm (dis w hwT)
    · exact e
  have : t = T1 := by
    rcases List.mem_cons.1 (old t hG) with e | e
    · simp only [Prod.mk.injEq] at e; exact e.1
    · exact (d1.disj e w hwT hm).elim
  rw [← this]; exact hG

section
variable {h : Hp} {a b n : Nat} {N : NN} {tr : Int}

theorem lLink_spec (d : FS h a b n N tr) {pa : Nat → Int} {F0 : List (Tr × Int)} (lf : LF n N pa F0) (x y : Int) (K : Int → Hp → Prop)
    (hbad : ¬ ((0 ≤ x ∧ x < (n : Int)) ∧ 0 ≤ y ∧ y < (n : Int)) → K 3 h) (hloop : x = y → 0 ≤ x ∧ x < (n : Int) → K 9 h)
    (hhave : ∀ (u v : Nat) h' N' pa' l G, x = u → y = v → u < n → v < n → u ≠ v → FS h' a b n N' tr → FrB a b h h' → LF n N' pa' ((.nd l v .nil, -1) :: G) → (∀ p q, Ed pa' p q ↔ Ed pa p q) → (∀ w, (N' w).key = (N w).key) → pa' u = -1 → u ∈ (Tr.nd l v .nil).seq → K 6 h')
    (hok : ∀ (u v : Nat) h' N' pa' F' pa1 N1 l G, x = u → y = v → u < n → v < n → u ≠ v → FS h' a b n N' (w64 (tr - 1)) → FrB a b h h' → LF n N' pa' F' → (∀ p q, Ed pa' p q ↔ Ed pa p q ∨ (p = u ∧ q = v) ∨ (p = v ∧ q = u)) → (∀ w, (N' w).key = (N w).key) →
      LF n N1 pa1 ((.nd l v .nil, -1) :: G) → (∀ p q, Ed pa1 p q ↔ Ed pa p q) → pa1 u = -1 → u ∉ (Tr.nd l v .nil).seq → K 0 h') : g_lct_Forest_Link (some ⟨a, 0, none⟩) x y h K := by
  have hn := d.hn
  unfold g_lct_Forest_Link
  refine lCheck_spec d x y _ (fun q => cnd_t rfl (hbad q)) fun u v hx hy hu hv => cnd_f rfl ?_
  subst hx hy
  refine cnd_of (fun c => hloop (by simpa using c) ⟨by omega, by omega⟩) fun c => ?_
  have huv : u ≠ v := fun e => by subst e; simp at c
  refine path12_spec d lf hu hv _ fun h4 N1 pa1 l G c1 d1 f1 lf1 ed1 rv1 ky1 pu hc hfirst _ hout => cnd_of (fun cc => hhave u v h4 N1 pa1 l G rfl rfl hu hv huv d1 f1 lf1 ed1 ky1 pu (hc.1 cc)) fun cc => ?_
  have hnot : u ∉ (Tr.nd l v .nil).seq := fun q => by rw [hc.2 q] at cc; cases cc
  refine root12_spec d1 lf1 hu _ fun h5 N2 pa2 r G2 d2 f2 lf2 ed2 rv2 ky2 old2 same2 one2 => ?_
  have hr := one2 pu
  subst hr
  have stay := lf1.stay lf2 (fun t ht => (old2 t ht).1) same2 fun w hw hw2 => by
    simp [Tr.seq] at hw2; subst hw2; exact hnot hw
  obtain ⟨A, B, hAB⟩ := List.append_of_mem stay
  have lf3 : LF n N2 pa2 ((.nd .nil u .nil, -1) :: (.nd l v .nil, -1) :: (A ++ B)) := lf2.perm (by rw [hAB]; exact List.Perm.cons _ List.perm_middle)
  have vrev : (N2 v).rev = false := by rw [(old2 _ stay).2 v (by simp [Tr.seq])]; exact rv1
  obtain ⟨lf4, po, kk⟩ := lf3.link vrev hn
  have pu2 : pa2 u = -1 := (lf2.pc _ (List.mem_cons_self ..)).1
  refine d2.nd hu (K := fun a8 => stc h5 (((a8.add (Int.toNat (u : Int) * 9)).add 0).add 0) (.int .i64 (v : Int)) _) ?_
  simp only [add_mk, Nat.zero_add, Int.toNat_natCast, Nat.add_zero]
  refine d2.stU hu (v : Int) rfl fun h9 d9 f9 _ => ?_
  refine d9.sl (K := fun s11 => ix s11.a s11.n (v : Int) fun a12 => ldI .i64 h9 ((a12.add (Int.toNat (v : Int) * 9)).add 7) fun n13 => nn (some ⟨a, 0, none⟩) fun a14 => ldS h9 (a14.add 1) fun s15 => ix s15.a s15.n (u : Int) fun a16 => ldI .i64 h9 ((a16.add (Int.toNat (u : Int) * 9)).add 8) fun n17 => ix s11.a s11.n (v : Int) _) fun _ => ix_of (by omega) (by simp only; omega) ?_
  simp only [add_mk, Nat.zero_add, Int.toNat_natCast]
  refine ldI_of (by rw [d9.cell hv 7 (by omega) (by omega), setU_out (Ne.symm huv)]; rfl) (d9.nd hu (K := fun a16 => ldI .i64 h9 ((a16.add (Int.toNat (u : Int) * 9)).add 8) _) ?_)
  simp only [add_mk, Nat.zero_add, Int.toNat_natCast]
  refine ldI_of (by rw [d9.cell hu 8 (by omega) (by omega), setU_at]; rfl) (ix_of (by omega) (by omega) ?_)
  simp only [add_mk, Nat.zero_add, Int.toNat_natCast, Nat.add_zero]
  refine d9.st hv 7 (by omega) (by omega) (linkN N2 u v) (fun w hw => by
    unfold linkN setU; rw [if_neg hw]
    by_cases e : w = u
    · subst e; rfl
    · simp only [if_neg e]) (by unfold linkN; rw [if_pos rfl, setU_out (Ne.symm huv)]; rfl) fun h19 d19 f19 _ => ?_
  refine pull_spec d19 hv po _ fun h20 d20 f20 _ => nn_of ?_
  simp only [add_mk, Nat.zero_add]
  refine ldI_of d20.c2 (nn_of ?_)
  simp only [add_mk, Nat.zero_add, Nat.add_zero]
  obtain ⟨c20, ha20, hc20⟩ := d20.ha
  refine stc_of ha20 (by simp) fun h24 z24 b24 k24 => ?_
  have F := ((((f1.trans f2).trans f9).trans f19).trans f20)
  have d24 : FS h24 a b n (pullN (linkN N2 u v) v) (w64 (tr - 1)) := ⟨⟨c20, b24, hc20⟩, by rw [k24 b (Ne.symm d20.ne)]; exact d20.hb, d20.ne, by have := d20.la; omega, by have := d20.lb; omega, hn⟩
  refine hok u v h24 _ _ _ pa1 N1 l G rfl rfl hu hv huv d24 (F.trans ⟨by omega, fun c _ hc _ => k24 c hc⟩) lf4 (fun p q => ?_) (fun w => (kk w).trans ((ky2 w).trans (ky1 w))) lf1 ed1 pu hnot
  rw [linkP_Ed pu2, ed2, ed1]
end

end Go.Hx
