/- Link-cut forests: another key. No condition. -/
import Derived.Test.YtjpmgekdgpkcfaaHxLctO
namespace Go.Hx
set_option linter.unusedSimpArgs false
set_option linter.unusedVariables false

def keyN (N : NN) (v : Nat) (k : Int) : NN := fun w => if w = v then { N v with key := k } else N w

theorem LF.setkey {n : Nat} {N : NN} {pa : Nat → Int} {v : Nat} {l r : Tr} {pp k : Int} {G : List (Tr × Int)} (d : LF n N pa ((.nd l v r, pp) :: G)) (rv : (N v).rev = false) (hn : n ≤ 65536) :
    LF n (pullN (keyN N v k) v) pa ((.nd l v r, pp) :: G) ∧ PO n (keyN N v k) v ∧ ∀ w, (pullN (keyN N v k) v w).key = if w = v then k else (N w).key := by
  obtain ⟨N1, h1⟩ : ∃ N1, N1 = keyN N v k := ⟨_, rfl⟩
  rw [← h1]
  have n1v : N1 v = { N v with key := k } := by rw [h1]; unfold keyN; rw [if_pos rfl]
  have n1o : ∀ w, w ≠ v → N1 w = N w := fun w hw => by rw [h1]; unfold keyN; rw [if_neg hw]
  have hT : (Tr.nd l v r, pp) ∈ (Tr.nd l v r, pp) :: G := List.mem_cons_self ..
  have hG : ∀ f, f ∈ G → f ∈ (Tr.nd l v r, pp) :: G := fun f hf => List.mem_cons_of_mem _ hf
  have tt := d.tt
  have nd := tt.nd
  simp only [Tr.seq] at nd
  rw [List.nodup_append, List.nodup_cons] at nd
  have vl : v ∉ l.seq := fun q => nd.2.2 v q v (by simp) rfl
  have vr : v ∉ r.seq := nd.2.1.1
  have vG : ∀ f, f ∈ G → v ∉ f.1.seq := fun f hf q => d.disj hf v (by simp [Tr.seq]) q
  have sm : ∀ w, sam N (pullN N1 v) w := fun w => by
    obtain ⟨a1, a2, a3, a4⟩ := pullN_sam N1 v w
    by_cases e : w = v
    · subst e; rw [sam, a1, a2, a3, a4, n1v]; exact ⟨rfl, rfl, rfl, rfl⟩
    · rw [sam, a1, a2, a3, a4, n1o w e]; exact ⟨rfl, rfl, rfl, rfl⟩
  have so : ∀ w, w ≠ v → sag N (pullN N1 v) w := fun w hw => by rw [sag, pullN_out hw, n1o w hw]; exact ⟨rfl, rfl, rfl, rfl, rfl⟩
  have so1 : ∀ w, w ≠ v → sag N N1 w := fun w hw => by rw [sag, n1o w hw]; exact ⟨rfl, rfl, rfl, rfl, rfl⟩
  obtain ⟨x1, x2, x3, x4⟩ := d.rs _ hT
  simp only [rv, Bool.xor_false, Bool.false_eq_true, if_false] at x2
  obtain ⟨g1, g2, g3⟩ := d.ag _ hT
  have gl : AG N1 l := g2.congr fun w hw => so1 w fun e => vl (e ▸ hw)
  have gr : AG N1 r := g3.congr fun w hw => so1 w fun e => vr (e ▸ hw)
  have len := tt.len
  simp only [Tr.seq] at len
  have gv : agg (pullN N1 v) v (l.seq ++ v :: r.seq) := pull_agg (by rw [n1v]; exact x2.1) (by rw [n1v]; exact x2.2) gl gr (by omega)
  have hh : ∀ w, (pullN N1 v w).hang = (N w).hang := fun w => by
    rw [(pullN_kh N1 v w).2]
    by_cases e : w = v
    · subst e; rw [n1v]
    · rw [n1o w e]
  have ha : ∀ w, w = v ∨ w ≠ v → (pullN N1 v w).all = (N w).all := fun w hw => by
    rcases hw with rfl | hw
    · have e1 : (pullN N1 w w).all = w64 (sumH (pullN N1 w) (l.seq ++ w :: r.seq)) := gv.2.2
      have e2 : (N w).all = w64 (sumH N (l.seq ++ w :: r.seq)) := g1.2.2
      rw [e1, e2, sumH_congr fun x _ => hh x]
    · exact (so w hw).2.2.2.2
  refine ⟨⟨fun f hf => (d.rs f hf).congr fun w _ => sm w, fun f hf => ?_, d.ne, d.pp, d.nd, d.cov, fun x hx => ?_, d.pc, d.dp⟩, PO.of (l := l) (r := r) (by rw [n1v]; exact x2.1) (by rw [n1v]; exact x2.2) gl gr (fun w hw => tt.lt w (by
    simp only [Tr.seq, List.mem_append, List.mem_cons]
    exact hw.elim .inl fun q => .inr (.inr q))) ⟨vl, vr⟩, fun w => ?_⟩
  · rcases List.mem_cons.1 hf with rfl | hf
    · exact ⟨gv, g2.congr fun w hw => so w fun e => vl (e ▸ hw), g3.congr fun w hw => so w fun e => vr (e ▸ hw)⟩
    · exact (d.ag f (hG f hf)).congr fun w hw => so w fun e => vG f hf (e ▸ hw)
  · rw [hh, d.hg x hx]
    congr 1
    exact (hsum_congr fun f _ => ha _ (Decidable.em _)).symm
  · rw [(pullN_kh N1 v w).1]
    by_cases e : w = v
    · subst e; rw [n1v, if_pos rfl]
    · rw [n1o w e, if_neg e]

section
variable {h : Hp} {a b n : Nat} {N : NN} {tr : Int}

theorem lSet_spec (d : FS h a b n N tr) {pa : Nat → Int} {F0 : List (Tr × Int)} (lf : LF n N pa F0) (x k : Int) (K : Int → Hp → Prop) (hbad : ¬ (0 ≤ x ∧ x < (n : Int)) → K 3 h)
    (hok : ∀ (v : Nat) h' N' F', x = v → v < n → FS h' a b n N' tr → FrB a b h h' → LF n N' pa F' → (∀ w, (N' w).key = if w = v then k else (N w).key) → K 0 h') : g_lct_Forest_Set (some ⟨a, 0, none⟩) x k h K := by
  have hn := d.hn
  unfold g_lct_Forest_Set
  refine lCheck_spec d x x _ (fun q => cnd_t rfl (hbad fun g => q ⟨g, g⟩)) fun v v' hx hx' hv _ => cnd_f rfl ?_
  subst hx
  obtain ⟨T, pp, G, hvT, hp⟩ := lf.front hv
  have lf1 := lf.perm hp
  refine splay_spec d lf1.tt hvT _ fun h3 N1 l r d1 f1 t1 s1 rv1 o1 => ?_
  have lf2 := lf1.reform t1 s1 o1
  obtain ⟨lf3, po, kk⟩ := lf2.setkey (k := k) rv1 hn
  refine d1.nd hv (K := fun a6 => stc h3 (((a6.add (Int.toNat (v : Int) * 9)).add 4).add 0) (.int .i64 k) _) ?_
  simp only [add_mk, Nat.zero_add, Int.toNat_natCast, Nat.add_zero]
  refine d1.st hv 4 (by omega) (by omega) (keyN N1 v k) (fun w hw => by unfold keyN; rw [if_neg hw]) (by unfold keyN; rw [if_pos rfl]; rfl) fun h7 d7 f7 _ => ?_
  refine pull_spec d7 hv po _ fun h8 d8 f8 _ => hok v h8 _ _ rfl hv d8 ((f1.trans f7).trans f8) lf3 fun w => ?_
  rw [kk, o1.key]
end

end Go.Hx
