/- Link-cut forests: access. No condition. -/
import Derived.Test.YtjpmgekdgpkcfaaHxLctF
import Derived.Test.YtjpmgekdgpkcfaaHxLctG
namespace Go.Hx
set_option linter.unusedSimpArgs false
set_option linter.unusedVariables false

theorem w64_idem (x : Int) : w64 (w64 x) = w64 x := by simp only [w64, IntKind.wrap_i64]; omega

/-- Where the loop of access stands: the part tl hangs on u; F0, N0: the forest before. -/
structure AC (n : Nat) (N0 N : NN) (pa : Nat → Int) (F0 : List (Tr × Int)) (v : Nat) (tl : Tr) (u : Int) (G : List (Tr × Int)) : Prop where
  lf : LF n N pa (opt tl u ++ G)
  first : tl = .nil → u = v
  last : tl ≠ .nil → ∃ ys, tl.seq = ys ++ [v]
  old : ∀ t, (t, (-1 : Int)) ∈ G → (t, (-1 : Int)) ∈ F0 ∧ ∀ w, w ∈ t.seq → N w = N0 w
  key : ∀ w, (N w).key = (N0 w).key

/-- Where the way of access leaves the old way. -/
def Mt (F0 : List (Tr × Int)) (v : Nat) (tl : Tr) (z : Int) : Prop := ∃ t0 xs ys zs, ∃ zz : Nat, z = zz ∧ (t0, (-1 : Int)) ∈ F0 ∧ t0.seq = xs ++ zz :: ys ∧ tl.seq = xs ++ zz :: zs ∧ ∀ w, w ∈ zs → w ∉ t0.seq

section
variable {h : Hp} {a b n : Nat} {N : NN} {tr : Int}

set_option maxHeartbeats 1000000 in
theorem access_spec (d : FS h a b n N tr) {pa : Nat → Int} {F0 : List (Tr × Int)} (lf : LF n N pa F0) {v : Nat} (hv : v < n) (K : Int → Hp → Prop)
    (hK : ∀ h' N' z l G, FS h' a b n N' tr → FrB a b h h' → LF n N' pa ((.nd l v .nil, -1) :: G) → (N' v).rev = false → (∀ w, (N' w).key = (N w).key) → (∀ t, (t, (-1 : Int)) ∈ G → (t, (-1 : Int)) ∈ F0 ∧ ∀ w, w ∈ t.seq → N' w = N w) →
      Mt F0 v (.nd l v .nil) z → K z h') : g_lct_Forest_access (some ⟨a, 0, none⟩) (v : Int) h K := by
  have hn := d.hn
  unfold g_lct_Forest_access
  refine jn_of (fun s g => ∃ N' tl G, FS g a b n N' tr ∧ FrB a b h g ∧ AC n N N' pa F0 v tl (-1) G ∧ tl ≠ .nil ∧ Mt F0 v tl s.1) ?_ fun K3 hK3 => ?_
  · rintro ⟨z, u⟩ g ⟨N', tl, G, dg, fg, ac, hne, mt⟩
    obtain ⟨ys, hys⟩ := ac.last hne
    have hlf := ac.lf
    have e : opt tl (-1) = [(tl, -1)] := by
      cases tl with
      | nil => exact absurd rfl hne
      | nd a b c => rfl
    rw [e] at hlf
    have lf1 : LF n N' pa ((tl, -1) :: G) := hlf
    refine splay_spec dg lf1.tt (by rw [hys]; simp) _ fun g2 N2 l r d2 f2 t2 s2 rv2 o2 => ?_
    have lf2 := lf1.reform t2 s2 o2
    have hr : r = .nil := by
      have nd := t2.nd
      have e1 : l.seq ++ v :: r.seq = ys ++ [v] := s2.trans hys
      have e2 := congrArg List.reverse e1
      simp only [List.reverse_append, List.reverse_cons, List.reverse_nil, List.nil_append, List.append_assoc, List.singleton_append] at e2
      cases hq : r.seq.reverse with
      | nil =>
        have : r.seq = [] := by simpa using hq
        cases hr : r with
        | nil => rfl
        | nd x y z => rw [hr] at this; simp [Tr.seq] at this
      | cons x xs =>
        rw [hq] at e2
        simp only [List.cons_append, List.cons.injEq] at e2
        have hvr : v ∈ r.seq := by
          have : v ∈ r.seq.reverse := by rw [hq, e2.1]; simp
          simpa using this
        simp only [Tr.seq] at nd
        rw [List.nodup_append, List.nodup_cons] at nd
        exact absurd hvr nd.2.1.1
    subst hr
    refine hK g2 N2 z l G d2 (fg.trans f2) lf2 rv2 (fun w => (o2.key w).trans (ac.key w)) (fun t ht => ?_) ?_
    · obtain ⟨h1, h2⟩ := ac.old t ht
      refine ⟨h1, fun w hw => ?_⟩
      rw [o2.out w fun q => lf1.disj ht w q hw, h2 w hw]
    · obtain ⟨t0, xs, ys', zs, zz, e1, e2, e3, e4, e5⟩ := mt
      exact ⟨t0, xs, ys', zs, zz, e1, e2, e3, s2.trans e4, e5⟩
  -- the loop
  obtain ⟨dep, hdep⟩ := lf.dp
  let dI : Int → Nat := fun u => if u = -1 then 0 else dep u.toNat + 1
  refine loop_of (fun m (st : Int × Int × Unit) g => dI st.2.1 ≤ m ∧ ∃ N' tl G, FS g a b n N' tr ∧ FrB a b h g ∧ st.1 = tl.rt ∧ AC n N N' pa F0 v tl st.2.1 G ∧ (st.2.1 = -1 → tl ≠ .nil ∧ Mt F0 v tl st.1)) ?_ (n := dI (v : Int))
    ⟨Nat.le_refl _, N, .nil, F0, d, FrB.refl _ _ _, rfl, ⟨lf, fun _ => rfl, fun q => absurd rfl q, fun t ht => ⟨ht, fun _ _ => rfl⟩, fun _ => rfl⟩, fun q => by simp only at q; omega⟩
  rintro m Kw ⟨last, u, x⟩ g ⟨hm, N1, tl, G, d1, f1, hl, ac, hend⟩ hKw
  simp only at hm hl ac hend
  subst hl
  refine cnd_of (fun c => ?_) fun c => ?_
  · simp only [bne_iff_ne] at c
    -- u is a vertex
    obtain ⟨uu, rfl, hun⟩ : ∃ uu : Nat, u = uu ∧ uu < n := by
      by_cases q : tl = .nil
      · exact ⟨v, ac.first q, hv⟩
      · have hm : (tl, u) ∈ opt tl u ++ G := by
          cases tl with
          | nil => exact absurd rfl q
          | nd a b c => simp [opt]
        rcases ac.lf.pp _ hm with h1 | ⟨y, h1, h2, _⟩
        · exact absurd h1 c
        · exact ⟨y, h1, h2⟩
    -- its tree
    obtain ⟨T, pp, G', huT, hG⟩ : ∃ T pp G', uu ∈ T.seq ∧ G.Perm ((T, pp) :: G') := by
      obtain ⟨f, hf, hfu⟩ := (ac.lf.cov uu).1 hun
      have hfG : f ∈ G := by
        rcases List.mem_append.1 hf with q | q
        · obtain ⟨rfl, q2⟩ := opt_mem q
          rcases ac.lf.pp _ hf with h1 | ⟨y, h1, _, h3⟩
          · simp only at h1; omega
          · simp only at h1 h3
            obtain rfl : uu = y := by omega
            exact absurd hfu h3
        · exact q
      obtain ⟨A, B, rfl⟩ := List.append_of_mem hfG
      obtain ⟨T, pp⟩ := f
      exact ⟨T, pp, A ++ B, hfu, List.perm_middle⟩
    have lfa : LF n N1 pa ((T, pp) :: (opt tl uu ++ G')) := ac.lf.perm ((hG.append_left _).trans List.perm_middle)
    refine splay_spec d1 lfa.tt huT _ fun g2 N2 l r d2 f2 t2 s2 rv2 o2 => ?_
    have lfb := lfa.reform t2 s2 o2
    obtain ⟨lfc, po, rv3, k0, k1, kk⟩ := lfb.step rv2 hn
    have up3 := (lfc.rs _ (List.mem_cons_self ..)).1
    have F2 := f1.trans f2
    have hw2 : w64 (N2 uu).hang = (N2 uu).hang := by rw [lfb.hg uu hun, w64_idem]
    have rts : ∀ t : Tr, (∀ w, w ∈ t.seq → w < n ∧ w ≠ uu) → t.rt = -1 ∧ allT N2 t = 0 ∨ ∃ k : Nat, t.rt = k ∧ k < n ∧ k ≠ uu ∧ allT N2 t = (N2 k).all := fun t ht => by
      cases t with
      | nil => exact .inl ⟨rfl, rfl⟩
      | nd x k y => exact .inr ⟨k, rfl, (ht k (by simp [Tr.seq])).1, (ht k (by simp [Tr.seq])).2, allT_nd _ _ _ _⟩
    have nd2 := t2.nd
    simp only [Tr.seq] at nd2
    rw [List.nodup_append, List.nodup_cons] at nd2
    have hrr := rts r fun w hw => ⟨t2.lt w (by simp [Tr.seq, hw]), fun e => nd2.2.1.1 (e ▸ hw)⟩
    have htl : tl ≠ .nil → (tl, (uu : Int)) ∈ opt tl uu ++ G' := fun q => by
      cases tl with
      | nil => exact absurd rfl q
      | nd x y z => simp [opt]
    have dtl : ∀ w, w ∈ tl.seq → w ∉ (Tr.nd l uu r).seq := fun w hw hw2 => by
      have hq : tl ≠ .nil := fun e => by rw [e] at hw; cases hw
      exact lfb.disj (htl hq) w hw2 hw
    have htt := rts tl fun w hw => ⟨(lfb.cov w).2 ⟨_, List.mem_cons_of_mem _ (htl fun e => by rw [e] at hw; cases hw), hw⟩, fun e => dtl w hw (by rw [e]; simp [Tr.seq])⟩
    refine d2.nd hun (K := fun a11 => jn _ _) ?_
    simp only [add_mk, Nat.zero_add, Int.toNat_natCast, Nat.add_zero]
    refine jn_of (fun _ h13 => FS h13 a b n (fun w => if w = uu then { N2 uu with hang := w64 ((N2 uu).hang + allT N2 r) } else N2 w) tr ∧ FrB a b h h13) ?_ fun K14 hK14 => ?_
    case refine_2 =>
      refine nn_of ⟨by omega, by omega, ?_⟩
      simp only [add_mk]
      refine ldI_of (by rw [d2.cell hun 2 (by omega) (by omega)]; rfl) ?_
      rw [k1]
      rcases hrr with ⟨e1, e2⟩ | ⟨k, e1, e2, e3, e4⟩
      · rw [e1]
        refine cnd_f rfl (hK14 _ _ ⟨?_, F2⟩)
        have : (fun w => if w = uu then { N2 uu with hang := w64 ((N2 uu).hang + allT N2 r) } else N2 w) = N2 := by
          funext w
          by_cases q : w = uu
          · subst q; simp only [if_true]; rw [e2, Int.add_zero, hw2]
          · simp only [if_neg q]
        rw [this]; exact d2
      · rw [e1]
        refine cnd_t (by simp) (nn_of ?_)
        simp only [add_mk]
        refine ldI_of (by rw [d2.cell hun 7 (by omega) (by omega)]; rfl) (d2.nd e2 (K := fun a39 => ldI .i64 g2 ((a39.add (Int.toNat (k : Int) * 9)).add 8) _) ?_)
        simp only [add_mk, Nat.zero_add, Int.toNat_natCast]
        refine ldI_of (by rw [d2.cell e2 8 (by omega) (by omega)]; rfl) (nn_of ?_)
        simp only [add_mk, Nat.add_zero]
        rw [← e4]
        exact d2.st hun 7 (by omega) (by omega) (fun w => if w = uu then { N2 uu with hang := w64 ((N2 uu).hang + allT N2 r) } else N2 w) (fun w hw => by simp only [if_neg hw]) (by simp only [if_pos]; rfl) fun h42 d42 f42 _ => hK14 _ _ ⟨d42, F2.trans f42⟩
    rintro ⟨⟩ h13 ⟨d13, f13⟩
    refine jn_of (fun _ h16 => FS h16 a b n (fun w => if w = uu then { N2 uu with hang := w64 (w64 ((N2 uu).hang + allT N2 r) - allT N2 tl) } else N2 w) tr ∧ FrB a b h h16) ?_ fun K17 hK17 => ?_
    case refine_2 =>
      rcases htt with ⟨e1, e2⟩ | ⟨k, e1, e2, e3, e4⟩
      · rw [e1]
        refine cnd_f rfl (hK17 _ _ ⟨?_, f13⟩)
        have : (fun w => if w = uu then { N2 uu with hang := w64 (w64 ((N2 uu).hang + allT N2 r) - allT N2 tl) } else N2 w) = (fun w => if w = uu then { N2 uu with hang := w64 ((N2 uu).hang + allT N2 r) } else N2 w) := by
          funext w; rw [e2, Int.sub_zero, w64_idem]
        rw [this]; exact d13
      · rw [e1]
        refine cnd_t (by simp) (nn_of ?_)
        simp only [add_mk]
        refine ldI_of (by rw [d13.cell hun 7 (by omega) (by omega), if_pos rfl]; rfl) (d13.nd e2 (K := fun a29 => ldI .i64 h13 ((a29.add (Int.toNat (k : Int) * 9)).add 8) _) ?_)
        simp only [add_mk, Nat.zero_add, Int.toNat_natCast]
        refine ldI_of (by rw [d13.cell e2 8 (by omega) (by omega), if_neg e3]; rfl) (nn_of ?_)
        simp only [add_mk, Nat.add_zero]
        rw [← e4]
        exact d13.st hun 7 (by omega) (by omega) (fun w => if w = uu then { N2 uu with hang := w64 (w64 ((N2 uu).hang + allT N2 r) - allT N2 tl) } else N2 w) (fun w hw => by simp only [if_neg hw]) (by simp only [if_pos]; rfl) fun h32 d32 f32 _ => hK17 _ _ ⟨d32, f13.trans f32⟩
    rintro ⟨⟩ h16 ⟨d16, f16⟩
    refine nn_of ⟨by omega, by omega, ?_⟩
    simp only [add_mk, Nat.add_zero]
    refine d16.st hun 2 (by omega) (by omega) (fun w => if w = uu then { N2 uu with k1 := tl.rt, hang := w64 (w64 ((N2 uu).hang + allT N2 r) - allT N2 tl) } else N2 w) (fun w hw => by simp only [if_neg hw]) (by simp only [if_pos]; rfl) fun h19 d19 f19 _ => ?_
    refine pull_spec d19 hun po _ fun h20 d20 f20 _ => ?_
    have d20' : FS h20 a b n (stepN N2 uu tl.rt (w64 (w64 ((N2 uu).hang + allT N2 r) - allT N2 tl))) tr := d20
    refine d20'.nd hun (K := fun a23 => ldI .i64 h20 ((a23.add (Int.toNat (uu : Int) * 9)).add 0) _) ?_
    simp only [add_mk, Nat.zero_add, Int.toNat_natCast, Nat.add_zero]
    refine d20'.ldU hun rfl ?_
    rw [up3]
    have hdu : dI (uu : Int) = dep uu + 1 := by
      show (if (uu : Int) = -1 then 0 else dep (Int.toNat (uu : Int)) + 1) = _
      rw [if_neg (by omega), Int.toNat_natCast]
    obtain ⟨m, rfl⟩ : ∃ m', m = m' + 1 := ⟨m - 1, by omega⟩
    refine hKw m rfl _ _ ⟨?_, _, .nd l uu tl, opt r uu ++ G', d20', (f16.trans f19).trans f20, rfl, ⟨lfc, (fun q => by cases q), fun _ => ?_, fun t ht => ?_, fun w => (kk w).trans ((o2.key w).trans (ac.key w))⟩, fun q => ⟨(fun q => by cases q), ?_⟩⟩
    · show (if pp = -1 then 0 else dep pp.toNat + 1) ≤ m
      by_cases q : pp = -1
      · rw [if_pos q]; omega
      · rw [if_neg q]
        rcases lfb.pp _ (List.mem_cons_self ..) with h1 | ⟨y, h1, _, _⟩
        · exact absurd h1 q
        · simp only at h1
          have := LF.chn_dep (lfb.pc _ (List.mem_cons_self ..)) hdep h1 (show uu ∈ (Tr.nd l uu r).seq by simp [Tr.seq])
          rw [h1, Int.toNat_natCast]; omega
    · by_cases q : tl = .nil
      · have := ac.first q
        obtain rfl : uu = v := by omega
        exact ⟨l.seq, by rw [q]; rfl⟩
      · obtain ⟨ys, hys⟩ := ac.last q
        exact ⟨l.seq ++ uu :: ys, by simp [Tr.seq, hys]⟩
    · rcases List.mem_append.1 ht with ht | ht
      · obtain ⟨e, _⟩ := opt_mem ht
        simp only [Prod.mk.injEq] at e
        omega
      · have htG : (t, (-1 : Int)) ∈ G := hG.mem_iff.2 (List.mem_cons_of_mem _ ht)
        obtain ⟨h1, h2⟩ := ac.old t htG
        refine ⟨h1, fun w hw => ?_⟩
        have hwT : w ∉ (Tr.nd l uu r).seq := fun q => lfb.disj (List.mem_append_right _ ht) w q hw
        have e1 : stepN N2 uu tl.rt (w64 (w64 ((N2 uu).hang + allT N2 r) - allT N2 tl)) w = N2 w := by
          have hwu : w ≠ uu := fun e => hwT (by rw [e]; simp [Tr.seq])
          unfold stepN
          rw [pullN_out hwu]; simp only [if_neg hwu]
        rw [e1, o2.out w (by rw [← s2]; exact hwT), h2 w hw]
    · simp only at q
      subst q
      have hTG : (T, (-1 : Int)) ∈ G := hG.mem_iff.2 (List.mem_cons_self ..)
      refine ⟨T, l.seq, r.seq, tl.seq, uu, rfl, (ac.old T hTG).1, by rw [← s2]; rfl, rfl, fun w hw => by rw [← s2]; exact dtl w hw⟩
  · simp only [bne_eq_false_iff_eq] at c
    subst c
    obtain ⟨h1, h2⟩ := hend rfl
    exact hK3 _ _ ⟨N1, tl, G, d1, f1, ac, h1, h2⟩
end

end Go.Hx
