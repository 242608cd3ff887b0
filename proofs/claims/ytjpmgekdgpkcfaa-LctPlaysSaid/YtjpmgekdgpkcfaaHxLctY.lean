/- Link-cut forests: Cut. No condition. -/
import Derived.Test.YtjpmgekdgpkcfaaHxLctO
import Derived.Test.YtjpmgekdgpkcfaaHxLctW
namespace Go.Hx
set_option linter.unusedSimpArgs false
set_option linter.unusedVariables false

def cutP (pa : Nat → Int) (v : Nat) : Nat → Int := fun w => if w = v then -1 else pa w
def cutN (N : NN) (u v : Nat) : NN := fun w => if w = u then { N u with up := -1 } else if w = v then { N v with k0 := -1 } else N w

theorem cutP_Ed {pa : Nat → Int} {u v : Nat} (h : pa v = (u : Int)) (p q : Nat) : Ed (cutP pa v) p q ↔ Ed pa p q ∧ ¬ ((p = u ∧ q = v) ∨ (p = v ∧ q = u)) ∨ (pa v = (u : Int) ∧ pa u = (v : Int) ∧ ((p = u ∧ q = v) ∨ (p = v ∧ q = u))) ∧ u ≠ v := by
  unfold Ed cutP
  by_cases h1 : p = v
  · by_cases h2 : q = v
    · rw [if_pos h1, if_pos h2, h1, h2, h]; omega
    · rw [if_pos h1, if_neg h2, h1, h]
      by_cases h3 : q = u
      · subst h3; omega
      · omega
  · by_cases h2 : q = v
    · rw [if_neg h1, if_pos h2, h2, h]
      by_cases h3 : p = u
      · subst h3; omega
      · omega
    · rw [if_neg h1, if_neg h2]; omega

theorem LF.cut {n : Nat} {N : NN} {pa : Nat → Int} {u v : Nat} {G : List (Tr × Int)} (d : LF n N pa ((.nd (.nd .nil u .nil) v .nil, -1) :: G)) (rv : (N v).rev = false) (hn : n ≤ 65536) :
    LF n (pullN (cutN N u v) v) (cutP pa v) ((.nd .nil u .nil, -1) :: (.nd .nil v .nil, -1) :: G) ∧ PO n (cutN N u v) v ∧ (∀ w, (pullN (cutN N u v) v w).key = (N w).key) ∧ pa v = (u : Int) ∧ pa u = -1 := by
  have hT : (Tr.nd (.nd .nil u .nil) v .nil, (-1 : Int)) ∈ (Tr.nd (.nd .nil u .nil) v .nil, (-1 : Int)) :: G := List.mem_cons_self ..
  have hG : ∀ f, f ∈ G → f ∈ (Tr.nd (.nd .nil u .nil) v .nil, (-1 : Int)) :: G := fun f hf => List.mem_cons_of_mem _ hf
  have uT : u ∈ (Tr.nd (.nd .nil u .nil) v .nil).seq := by simp [Tr.seq]
  have vT : v ∈ (Tr.nd (.nd .nil u .nil) v .nil).seq := by simp [Tr.seq]
  have nd := d.tt.nd
  simp only [Tr.seq, List.nil_append, List.cons_append] at nd
  have huv : u ≠ v := fun e => by subst e; simp at nd
  have uG : ∀ f, f ∈ G → u ∉ f.1.seq := fun f hf q => d.disj hf u uT q
  have vG : ∀ f, f ∈ G → v ∉ f.1.seq := fun f hf q => d.disj hf v vT q
  obtain ⟨x1, x2, ⟨y1, y2, _, _⟩, _⟩ := d.rs _ hT
  simp only [rv, Bool.xor_false, Bool.false_eq_true, if_false, Bool.false_xor] at x2 y1 y2
  obtain ⟨g1, g2, g3⟩ := d.ag _ hT
  obtain ⟨c1, c2, _⟩ : pa u = -1 ∧ pa v = (u : Int) ∧ True := d.pc _ hT
  obtain ⟨N1, h1⟩ : ∃ N1, N1 = cutN N u v := ⟨_, rfl⟩
  rw [← h1]
  have n1u : N1 u = { N u with up := -1 } := by rw [h1]; unfold cutN; rw [if_pos rfl]
  have n1v : N1 v = { N v with k0 := -1 } := by rw [h1]; unfold cutN; rw [if_neg (Ne.symm huv), if_pos rfl]
  have n1o : ∀ w, w ≠ u → w ≠ v → N1 w = N w := fun w hu hv => by rw [h1]; unfold cutN; rw [if_neg hu, if_neg hv]
  have so : ∀ w, w ≠ v → sag N (pullN N1 v) w := fun w hw => by
    rw [sag, pullN_out hw]
    by_cases e : w = u
    · subst e; rw [n1u]; exact ⟨rfl, rfl, rfl, rfl, rfl⟩
    · rw [n1o w e hw]; exact ⟨rfl, rfl, rfl, rfl, rfl⟩
  have sm : ∀ w, w ≠ u → w ≠ v → sam N (pullN N1 v) w := fun w h1 h2 => by
    rw [sam, pullN_out h2, n1o w h1 h2]; exact ⟨rfl, rfl, rfl, rfl⟩
  have smu : (pullN N1 v u).up = -1 ∧ (pullN N1 v u).k0 = (N u).k0 ∧ (pullN N1 v u).k1 = (N u).k1 ∧ (pullN N1 v u).rev = (N u).rev := by
    rw [pullN_out huv, n1u]; exact ⟨rfl, rfl, rfl, rfl⟩
  obtain ⟨v1, v2, v3, v4⟩ := pullN_sam N1 v v
  rw [n1v] at v1 v2 v3 v4
  have po : PO n N1 v := PO.of (l := .nil) (r := .nil) (by rw [n1v]; rfl) (by rw [n1v]; exact x2.2) trivial trivial (fun w hw => by rcases hw with hw | hw <;> cases hw) ⟨fun q => (by cases q), fun q => by cases q⟩
  have gv : agg (pullN N1 v) v ((Tr.nil).seq ++ v :: (Tr.nil).seq) := pull_agg (by rw [n1v]; rfl) (by rw [n1v]; exact x2.2) trivial trivial (by simp [Tr.seq])
  have hh : ∀ w, (pullN N1 v w).hang = (N w).hang := fun w => by
    rw [(pullN_kh N1 v w).2]
    by_cases e : w = u
    · subst e; rw [n1u]
    · by_cases e2 : w = v
      · subst e2; rw [n1v]
      · rw [n1o w e e2]
  refine ⟨⟨fun f hf => ?_, fun f hf => ?_, fun f hf => ?_, fun f hf => ?_, ?_, fun w => ?_, fun w hw => ?_, fun f hf => ?_, ?_⟩, po, fun w => ?_, c2, c1⟩
  · rcases List.mem_cons.1 hf with rfl | hf
    · refine ⟨smu.1, ?_, trivial, trivial⟩
      rw [smu.2.1, smu.2.2.1, smu.2.2.2]; simpa using y2
    · rcases List.mem_cons.1 hf with rfl | hf
      · refine ⟨by rw [v1]; exact x1, ?_, trivial, trivial⟩
        rw [v2, v3, v4]; simp only [rv, Bool.xor_false, Bool.false_eq_true, if_false]
        exact ⟨rfl, x2.2⟩
      · exact (d.rs f (hG f hf)).congr fun w hw => sm w (fun e => uG f hf (e ▸ hw)) fun e => vG f hf (e ▸ hw)
  · rcases List.mem_cons.1 hf with rfl | hf
    · exact AG.congr (t := .nd .nil u .nil) g2 fun w hw => by
        simp [Tr.seq] at hw; subst hw; exact so w huv
    · rcases List.mem_cons.1 hf with rfl | hf
      · exact ⟨gv, trivial, trivial⟩
      · exact (d.ag f (hG f hf)).congr fun w hw => so w fun e => vG f hf (e ▸ hw)
  · rcases List.mem_cons.1 hf with rfl | hf
    · exact fun q => by cases q
    · rcases List.mem_cons.1 hf with rfl | hf
      · exact fun q => by cases q
      · exact d.ne f (hG f hf)
  · rcases List.mem_cons.1 hf with rfl | hf
    · exact .inl rfl
    · rcases List.mem_cons.1 hf with rfl | hf
      · exact .inl rfl
      · exact d.pp f (hG f hf)
  · have := d.nd
    simpa [Tr.seq] using this
  · rw [d.cov w, ← List.mem_flatMap, ← List.mem_flatMap]
    simp [Tr.seq]
  · have h0 := d.hg w hw
    have hGs : hsum (pullN N1 v) G w = hsum N G w := hsum_congr fun f hf => by
      have := (LF.rt_in (d.ne f (hG f hf))).1
      exact (so _ fun e => vG f hf (e ▸ this)).2.2.2.2
    rw [hsum_cons, if_neg (show ¬ (-1 : Int) = (w : Int) by omega)] at h0
    rw [hsum_cons, hsum_cons, if_neg (show ¬ (-1 : Int) = (w : Int) by omega), if_neg (show ¬ (-1 : Int) = (w : Int) by omega), hGs, hh, h0]
    simp
  · rcases List.mem_cons.1 hf with rfl | hf
    · exact ⟨by unfold cutP; rw [if_neg huv]; exact c1, trivial⟩
    · rcases List.mem_cons.1 hf with rfl | hf
      · exact ⟨by unfold cutP; rw [if_pos rfl], trivial⟩
      · exact chn_congr (fun w hw => by unfold cutP; rw [if_neg (show ¬ w = v from fun e => vG f hf (e ▸ hw))]) (d.pc f (hG f hf))
  · obtain ⟨dep, hd⟩ := d.dp
    refine ⟨dep, fun x y e => ?_⟩
    unfold cutP at e
    by_cases q : x = v
    · rw [if_pos q] at e; omega
    · rw [if_neg q] at e; exact hd x y e
  · rw [(pullN_kh N1 v w).1]
    by_cases e : w = u
    · subst e; rw [n1u]
    · by_cases e2 : w = v
      · subst e2; rw [n1v]
      · rw [n1o w e e2]

section
variable {h : Hp} {a b n : Nat} {N : NN} {tr : Int}

theorem lCut_spec (d : FS h a b n N tr) {pa : Nat → Int} {F0 : List (Tr × Int)} (lf : LF n N pa F0) (x y : Int) (K : Int → Hp → Prop)
    (hbad : ¬ ((0 ≤ x ∧ x < (n : Int)) ∧ 0 ≤ y ∧ y < (n : Int)) → K 3 h)
    (hno : ∀ (u v : Nat) h' N' pa' F', x = u → y = v → u < n → v < n → FS h' a b n N' tr → FrB a b h h' → LF n N' pa' F' → Sa n N N' pa pa' → ¬ Ed pa u v → K 5 h')
    (hok : ∀ (u v : Nat) h' N' pa' F', x = u → y = v → u < n → v < n → u ≠ v → FS h' a b n N' (w64 (tr + 1)) → FrB a b h h' → LF n N' pa' F' → Ed pa u v → (∀ p q, Ed pa' p q ↔ Ed pa p q ∧ ¬ ((p = u ∧ q = v) ∨ (p = v ∧ q = u))) → (∀ w, (N' w).key = (N w).key) → K 0 h') : g_lct_Forest_Cut (some ⟨a, 0, none⟩) x y h K := by
  have hn := d.hn
  unfold g_lct_Forest_Cut
  refine lCheck_spec d x y _ (fun q => cnd_t rfl (hbad q)) fun u v hx hy hu hv => cnd_f rfl ?_
  have noL : ∀ w, ¬ Ed pa w w := fun w e => by
    obtain ⟨dep, hd⟩ := lf.dp
    rcases e with e | e <;> exact Nat.lt_irrefl _ (hd _ _ e)
  refine cnd_of (fun c => ?_) fun c => ?_
  · have : u = v := by simp only [beq_iff_eq] at c; omega
    subst this
    exact hno u u h N pa F0 hx hy hu hv d (FrB.refl _ _ _) lf ⟨fun _ _ => Iff.rfl, fun _ => rfl⟩ (noL u)
  have huv : u ≠ v := fun e => by subst e; simp only [beq_eq_false_iff_ne] at c; omega
  subst hx hy
  refine path12_spec d lf hu hv _ fun h4 N1 pa1 l G c1 d1 f1 lf1 ed1 rv1 ky1 pu hc hfirst _ _ => cnd_of (fun cc => ?_) fun cc => ?_
  · refine hno u v h4 N1 pa1 _ rfl rfl hu hv d1 f1 lf1 ⟨ed1, ky1⟩ fun e => ?_
    have := hc.2 (lf1.conn pu (by simp [Tr.seq]) (Cn.one ((ed1 u v).2 e)))
    rw [this] at cc; cases cc
  have hT := hc.1 (by simpa using cc)
  obtain ⟨ys, hys⟩ := hfirst (by simpa using cc)
  obtain ⟨s1, s2, _⟩ := lf1.size
  refine d1.nd hv (K := fun a7 => ldI .i64 h4 ((a7.add (Int.toNat (v : Int) * 9)).add 6) _) ?_
  simp only [add_mk, Nat.zero_add, Int.toNat_natCast]
  refine ldI_of (by rw [d1.cell hv 6 (by omega) (by omega)]; rfl) ?_
  have way : SP (Ed pa1) u v (Tr.nd l v .nil).seq := by
    have hp := lf1.pc _ (List.mem_cons_self ..)
    simp only at hp
    have hl : (Tr.nd l v .nil).seq.getLast? = some v := by simp [Tr.seq]
    rw [hys] at hp hl ⊢
    exact chn_SP lf1.dp hp hl
  refine cnd_of (fun c2 => ?_) fun c2 => ?_
  · refine hno u v h4 N1 pa1 _ rfl rfl hu hv d1 f1 lf1 ⟨ed1, ky1⟩ fun e => ?_
    have := lf1.fo.uniq way (SP.two ((ed1 u v).2 e) huv)
    rw [s1, this] at c2
    simp at c2
  have len : (Tr.nd l v .nil).seq.length = 2 := by
    rw [s1] at c2
    simp only [bne_eq_false_iff_eq] at c2
    omega
  have hl : l = .nd .nil u .nil := by
    have e : (Tr.nd l v .nil).seq = l.seq ++ [v] := rfl
    rw [e] at len hys
    cases hq : l.seq with
    | nil => rw [hq] at len; simp at len
    | cons p ps =>
      rw [hq] at len hys
      simp only [List.length_append, List.length_cons, List.length_nil, List.cons_append, List.cons.injEq] at len hys
      have : ps = [] := List.eq_nil_of_length_eq_zero (by omega)
      subst this
      obtain ⟨rfl, _⟩ := hys
      cases l with
      | nil => cases hq
      | nd l1 w l2 =>
        simp only [Tr.seq] at hq
        have h0 := congrArg List.length hq
        simp at h0
        have z : ∀ t : Tr, t.seq = [] → t = .nil := fun t ht => by
          cases t with
          | nil => rfl
          | nd a b d => simp [Tr.seq] at ht
        rw [z l1 (List.eq_nil_of_length_eq_zero (by omega)), z l2 (List.eq_nil_of_length_eq_zero (by omega))] at hq ⊢
        simp [Tr.seq] at hq
        rw [hq]
  subst hl
  obtain ⟨lf2, po, kk, pv, _⟩ := lf1.cut rv1 hn
  refine d1.nd hv (K := fun a11 => bnd 0 2 <| stc h4 ((((a11.add (Int.toNat (v : Int) * 9)).add 1).add (Int.toNat 0 * 1)).add 0) (.int .i64 (-1)) _) ⟨by omega, by omega, ?_⟩
  simp only [add_mk, Nat.zero_add, Int.toNat_natCast, Nat.add_zero]
  refine d1.st hv 1 (by omega) (by simp) (fun w => if w = v then { N1 v with k0 := -1 } else N1 w) (fun w hw => by simp only [if_neg hw]) (by simp only [if_true]; rfl) fun h12 d12 f12 _ => ?_
  refine d12.nd hu (K := fun a15 => stc h12 (((a15.add (Int.toNat (u : Int) * 9)).add 0).add 0) (.int .i64 (-1)) _) ?_
  simp only [add_mk, Nat.zero_add, Int.toNat_natCast, Nat.add_zero]
  refine d12.st hu 0 (by omega) (by omega) (cutN N1 u v) (fun w hw => by unfold cutN; rw [if_neg hw]) (by unfold cutN; rw [if_pos rfl]; simp only [if_neg huv]; rfl) fun h16 d16 f16 _ => ?_
  refine pull_spec d16 hv po _ fun h17 d17 f17 _ => nn_of ?_
  simp only [add_mk, Nat.zero_add]
  refine ldI_of d17.c2 (nn_of ?_)
  simp only [add_mk, Nat.zero_add, Nat.add_zero]
  obtain ⟨c20, ha20, hc20⟩ := d17.ha
  refine stc_of ha20 (by simp) fun h21 z21 b21 k21 => ?_
  have d21 : FS h21 a b n (pullN (cutN N1 u v) v) (w64 (tr + 1)) := ⟨⟨c20, b21, hc20⟩, by rw [k21 b (Ne.symm d17.ne)]; exact d17.hb, d17.ne, by have := d17.la; omega, by have := d17.lb; omega, hn⟩
  have F := (((f1.trans f12).trans f16).trans f17)
  refine hok u v h21 _ _ _ rfl rfl hu hv huv d21 (F.trans ⟨by omega, fun c _ hc _ => k21 c hc⟩) lf2 ((ed1 u v).1 (.inr pv)) (fun p q => ?_) fun w => (kk w).trans (ky1 w)
  rw [cutP_Ed pv, ed1]
  constructor
  · rintro (h | ⟨⟨_, h, _⟩, _⟩)
    · exact h
    · omega
  · exact .inl

end

end Go.Hx
