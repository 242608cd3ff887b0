/- Link-cut forests: root and path. No condition. -/
import Derived.Test.YtjpmgekdgpkcfaaHxLctH
import Derived.Test.YtjpmgekdgpkcfaaHxLctI
namespace Go.Hx
set_option linter.unusedSimpArgs false
set_option linter.unusedVariables false

section
variable {h : Hp} {a b n : Nat} {N : NN} {tr : Int}

/-- One that has no parent is the first of its list. -/
theorem chn_first {pa : Nat → Int} {p : Int} {xs : List Nat} {x : Nat} (c : chn pa p xs) (hx : x ∈ xs) (h : pa x = -1) : p = -1 ∧ ∃ ys, xs = x :: ys := by
  cases xs with
  | nil => cases hx
  | cons y ys =>
    by_cases e : x = y
    · subst e; exact ⟨c.1.symm.trans h, ys, rfl⟩
    · exfalso
      have hx' : x ∈ ys := by
        rcases List.mem_cons.1 hx with q | q
        · exact absurd q e
        · exact q
      have : ∀ (ys : List Nat) (q : Nat), chn pa q ys → x ∈ ys → False := by
        intro ys
        induction ys with
        | nil => intro q _ h; cases h
        | cons z zs ih =>
          intro q hc hm
          rcases List.mem_cons.1 hm with e | hm
          · subst e; have := hc.1; omega
          · exact ih z hc.2 hm
      exact this ys y c.2 hx'

theorem root12_spec (d : FS h a b n N tr) {pa : Nat → Int} {F0 : List (Tr × Int)} (lf : LF n N pa F0) {v : Nat} (hv : v < n) (K : Hp → Prop)
    (hK : ∀ h' N' pa' r G, FS h' a b n N' tr → FrB a b h h' → LF n N' pa' ((.nd .nil v r, -1) :: G) → (∀ u w, Ed pa' u w ↔ Ed pa u w) → (N' v).rev = false → (∀ w, (N' w).key = (N w).key) → (∀ t, (t, (-1 : Int)) ∈ G → (t, (-1 : Int)) ∈ F0 ∧ ∀ w, w ∈ t.seq → N' w = N w) → (∀ w, w ∉ (Tr.nd .nil v r).seq → pa' w = pa w) → (pa v = -1 → r = .nil) → K h') :
    g_lct_Forest_root (some ⟨a, 0, none⟩) (v : Int) h K := by
  unfold g_lct_Forest_root
  refine access_spec d lf hv _ fun h2 N1 z l G d1 f1 lf1 rv1 ky1 old1 _ => ?_
  have tt := lf1.tt
  have hvT : v ∈ (Tr.nd l v .nil).seq := by simp [Tr.seq]
  refine d1.sl (K := fun s4 => nn (some ⟨a, 0, none⟩) fun a5 => ldS h2 (a5.add 1) fun s6 => ix s6.a s6.n (v : Int) fun a7 => ldB h2 ((a7.add (Int.toNat (v : Int) * 9)).add 3) fun b8 => ix s4.a s4.n (v : Int) _) fun _ => ?_
  refine d1.nd hv (K := fun a7 => ldB h2 ((a7.add (Int.toNat (v : Int) * 9)).add 3) _) ?_
  simp only [add_mk, Nat.zero_add, Int.toNat_natCast]
  refine ldB_of (by rw [d1.cell hv 3 (by omega) (by omega)]; rfl) (ix_of (by omega) (by omega) ?_)
  simp only [add_mk, Nat.zero_add, Int.toNat_natCast, Nat.add_zero]
  obtain ⟨N2, h2e⟩ : ∃ N2 : NN, N2 = fun w => if w = v then { N1 v with rev := !(N1 v).rev } else N1 w := ⟨_, rfl⟩
  have n2v : N2 v = { N1 v with rev := !(N1 v).rev } := by rw [h2e]; simp
  have n2o : ∀ w, w ≠ v → N2 w = N1 w := fun w hw => by rw [h2e]; simp [hw]
  refine d1.st hv 3 (by omega) (by omega) N2 n2o (by rw [n2v]; rfl) fun h10 d10 f10 _ => ?_
  have sg : ∀ w, sag N1 N2 w := fun w => by
    by_cases e : w = v
    · subst e; rw [sag, n2v]; exact ⟨rfl, rfl, rfl, rfl, rfl⟩
    · rw [sag, n2o w e]; exact ⟨rfl, rfl, rfl, rfl, rfl⟩
  have rs2 : RS N2 false (Tr.nd l v .nil).mir (-1) := by
    have := (tt.rs.tog (N' := N2) tt.nd fun u hu => ?_).mir
    · simpa using this
    · by_cases e : u = v
      · subst e; rw [n2v, if_pos (show (u : Int) = (Tr.nd l u .nil).rt from rfl)]; exact ⟨rfl, rfl, rfl, rfl⟩
      · rw [n2o u e, if_neg (show ¬ (u : Int) = (Tr.nd l v .nil).rt by simp only [Tr.rt]; omega)]; exact ⟨rfl, rfl, rfl, rfl⟩
  have o2 : Out N1 N2 (Tr.nd l v .nil).seq := ⟨fun u hu => n2o u fun e => hu (e ▸ hvT), fun u => (sg u).1, fun u => (sg u).2.2.2.1⟩
  have sq : (Tr.nd .nil v l.mir).seq = (Tr.nd l v .nil).seq.reverse := Tr.seq_mir (Tr.nd l v .nil)
  have tt2 : TT n N2 (plug (.nd .nil v l.mir) []) (-1) := ⟨rs2, (tt.ag.congr fun u _ => sg u).mir, by
    show (Tr.nd .nil v l.mir).seq.Nodup
    rw [sq]; exact (List.reverse_perm _).nodup_iff.2 tt.nd, fun u hu => tt.lt u (by
    have : u ∈ (Tr.nd .nil v l.mir).seq := hu
    rw [sq] at this; simpa using this), .inl rfl⟩
  refine push_TT d10 tt2 _ fun h11 N3 d3 f3 _ tt3 o3 rv3 _ => ?_
  have o3' : Out N2 N3 (Tr.nd l v .nil).seq := by
    refine ⟨fun u hu => o3.out u fun q => hu ?_, o3.key, o3.hang⟩
    have : u ∈ (Tr.nd .nil v l.mir).seq := q
    rw [sq] at this; simpa using this
  obtain ⟨lf3, ed3⟩ := lf1.turn (T' := .nd .nil v l.mir) tt3 sq (o2.trans o3')
  refine hK h11 N3 _ l.mir G d3 ((f1.trans f10).trans f3) lf3 ed3 rv3 (fun w => (o3.key w).trans ((o2.key w).trans (ky1 w))) (fun t ht => ?_) (fun w hw => by unfold evp; rw [if_neg hw]) fun hp => ?_
  rotate_left
  · obtain ⟨_, ys, hys⟩ := chn_first (lf1.pc _ (List.mem_cons_self ..)) hvT hp
    have nd := tt.nd
    simp only [Tr.seq] at hys nd
    cases hl : l with
    | nil => rfl
    | nd p q s =>
      exfalso
      cases hq : l.seq with
      | nil => rw [hl] at hq; simp [Tr.seq] at hq
      | cons z zs =>
        rw [hq] at hys nd
        simp only [List.cons_append, List.cons.injEq] at hys
        obtain ⟨rfl, _⟩ := hys
        simp at nd
  obtain ⟨e1, e2⟩ := old1 t ht
  refine ⟨e1, fun w hw => ?_⟩
  have hw' : w ∉ (Tr.nd l v .nil).seq := fun q => lf1.disj ht w q hw
  rw [(o2.trans o3').out w hw', e2 w hw]

theorem path12_spec (d : FS h a b n N tr) {pa : Nat → Int} {F0 : List (Tr × Int)} (lf : LF n N pa F0) {u v : Nat} (hu : u < n) (hv : v < n) (K : Bool → Hp → Prop)
    (hK : ∀ h' N' pa' l G x, FS h' a b n N' tr → FrB a b h h' → LF n N' pa' ((.nd l v .nil, -1) :: G) → (∀ y w, Ed pa' y w ↔ Ed pa y w) → (N' v).rev = false → (∀ w, (N' w).key = (N w).key) → pa' u = -1 → (x = true ↔ u ∈ (Tr.nd l v .nil).seq) → (x = true → ∃ ys, (Tr.nd l v .nil).seq = u :: ys) → (u ≠ v → x = true → ∃ p : Nat, (N' u).up = p) → (x = false → (N' u).up = -1 ∧ ∃ r, (Tr.nd .nil u r, (-1 : Int)) ∈ G) → K x h') :
    g_lct_Forest_path (some ⟨a, 0, none⟩) (u : Int) (v : Int) h K := by
  unfold g_lct_Forest_path
  refine lHas_spec d _ _ fun x1 e1 => cnd_f (by rw [e1.2 ⟨by omega, by omega⟩]; rfl) (lHas_spec d _ _ fun x2 e2 => cnd_f (by rw [e2.2 ⟨by omega, by omega⟩]; rfl) ?_)
  refine root12_spec d lf hu _ fun h5 N1 pa1 r G1 d1 f1 lf1 ed1 rv1 ky1 _ _ _ => ?_
  refine access_spec d1 lf1 hv _ fun h7 N2 z l G2 d2 f2 lf2 rv2 ky2 old2 _ => ?_
  have pau : pa1 u = -1 := by
    have := lf1.pc _ (List.mem_cons_self ..)
    exact this.1
  have F := f1.trans f2
  have ky : ∀ w, (N2 w).key = (N w).key := fun w => (ky2 w).trans (ky1 w)
  have hd : u ∈ (Tr.nd l v .nil).seq → ∃ ys, (Tr.nd l v .nil).seq = u :: ys := fun q => (chn_first (lf2.pc _ (List.mem_cons_self ..)) q pau).2
  have out : u ∉ (Tr.nd l v .nil).seq → (N2 u).up = -1 ∧ ∃ r, (Tr.nd .nil u r, (-1 : Int)) ∈ G2 := fun q => by
    obtain ⟨⟨t, pp⟩, hf, hm⟩ := (lf2.cov u).1 hu
    have hfG : (t, pp) ∈ G2 := by
      rcases List.mem_cons.1 hf with e | e
      · simp only [Prod.mk.injEq] at e
        rw [e.1] at hm; exact absurd hm q
      · exact e
    obtain ⟨rfl, _⟩ := chn_first (lf2.pc _ hf) hm pau
    obtain ⟨o1, o2⟩ := old2 t hfG
    have ht : t = .nd .nil u r := by
      rcases List.mem_cons.1 o1 with e | e
      · simp only [Prod.mk.injEq] at e; exact e.1
      · exact (lf1.disj e u (by simp [Tr.seq]) hm).elim
    subst ht
    refine ⟨?_, r, hfG⟩
    rw [o2 u hm]
    exact (lf1.rs _ (List.mem_cons_self ..)).1
  by_cases e : u = v
  · subst e
    have : u ∈ (Tr.nd l u .nil).seq := by simp [Tr.seq]
    exact cnd_t (by simp) (hK h7 N2 pa1 l G2 true d2 F lf2 ed1 rv2 ky pau ⟨fun _ => this, fun _ => rfl⟩ (fun _ => hd this) (fun q => absurd rfl q) fun q => by cases q)
  · refine cnd_f (by rw [beq_eq_false_iff_ne]; omega) (d2.nd hu (K := fun a10 => ldI .i64 h7 ((a10.add (Int.toNat (u : Int) * 9)).add 0) _) ?_)
    simp only [add_mk, Nat.zero_add, Int.toNat_natCast, Nat.add_zero]
    refine d2.ldU hu rfl ?_
    by_cases q : u ∈ (Tr.nd l v .nil).seq
    · have up : ∃ p : Nat, (N2 u).up = p := by
        obtain ⟨l', r', c, hc⟩ := find_plug q
        have rs := lf2.rs _ (List.mem_cons_self ..)
        simp only at rs
        rw [hc] at rs
        rw [RS_up rs]
        cases c with
        | nil =>
          simp only [plug, Tr.nd.injEq] at hc
          exact absurd hc.2.1.symm e
        | cons f c => obtain ⟨x, p, s⟩ := f; exact ⟨p, rfl⟩
      obtain ⟨p, hp⟩ := up
      have : ((N2 u).up != -1) = true := by rw [hp]; simp
      rw [this]
      exact hK h7 N2 pa1 l G2 true d2 F lf2 ed1 rv2 ky pau ⟨fun _ => q, fun _ => rfl⟩ (fun _ => hd q) (fun _ _ => ⟨p, hp⟩) fun q => by cases q
    · have : ((N2 u).up != -1) = false := by rw [(out q).1]; rfl
      rw [this]
      exact hK h7 N2 pa1 l G2 false d2 F lf2 ed1 rv2 ky pau ⟨fun q => (by cases q), fun q' => absurd q' q⟩ (fun q => by cases q) (fun _ q => by cases q) fun _ => out q
end

end Go.Hx
