/- Link-cut forests: splay. No condition. -/
import Derived.Test.YtjpmgekdgpkcfaaHxLctD
import Derived.Test.YtjpmgekdgpkcfaaHxDsuT
import Derived.Test.YtjpmgekdgpkcfaaHxIter
namespace Go.Hx
set_option linter.unusedSimpArgs false
set_option linter.unusedVariables false

/-- The nodes from a node up to the root of its tree. -/
def wayL (v : Nat) (c : Cx) : List Nat := v :: c.map fun f => f.2.1

theorem way_plug {c : Cx} {l r : Tr} {v j : Nat} (hj : j < (wayL v c).length) : ∃ l' r', plug (.nd l v r) c = plug (.nd l' (gt (wayL v c) j) r') (c.drop j) := by
  induction c generalizing l r v j with
  | nil =>
    simp [wayL] at hj
    subst hj
    exact ⟨l, r, rfl⟩
  | cons f c ih =>
    obtain ⟨d, p, s⟩ := f
    cases j with
    | zero => exact ⟨l, r, rfl⟩
    | succ j =>
      have hj' : j < (wayL p c).length := by simpa [wayL] using hj
      cases d with
      | true => exact ih (l := s) (r := .nd l v r) (v := p) hj'
      | false => exact ih (l := .nd l v r) (r := s) (v := p) hj'

theorem way_mem {c : Cx} {v j k : Nat} (hjk : j < k) (hk : k < (wayL v c).length) : gt (wayL v c) k ∈ cnodes (c.drop j) := by
  induction c generalizing v j k with
  | nil => simp [wayL] at hk; omega
  | cons f c ih =>
    obtain ⟨d, p, s⟩ := f
    obtain ⟨k, rfl⟩ : ∃ k', k = k' + 1 := ⟨k - 1, by omega⟩
    have hk' : k < (wayL p c).length := by simpa [wayL] using hk
    have e : gt (wayL v ((d, p, s) :: c)) (k + 1) = gt (wayL p c) k := rfl
    rw [e]
    cases j with
    | zero =>
      simp only [List.drop_zero, cnodes, List.flatMap_cons, List.mem_append, List.mem_cons]
      cases k with
      | zero => exact .inl (.inl rfl)
      | succ k =>
        have := ih (v := p) (j := 0) (k := k + 1) (by omega) hk'
        simp only [List.drop_zero, cnodes] at this
        exact .inr this
    | succ j => exact ih (v := p) (by omega) hk'

theorem way_up {N : NN} {c : Cx} {l r : Tr} {v j : Nat} {pp : Int} (h : RS N false (plug (.nd l v r) c) pp) (hj : j + 1 < (wayL v c).length) : (N (gt (wayL v c) j)).up = ((gt (wayL v c) (j + 1) : Nat) : Int) := by
  obtain ⟨l', r', e⟩ := way_plug (l := l) (r := r) (v := v) (c := c) (j := j) (by omega)
  rw [e] at h
  rw [RS_up h]
  have hl : j < c.length := by simpa [wayL] using hj
  rw [List.drop_eq_getElem_cons hl]
  have : gt (wayL v c) (j + 1) = (c[j]).2.1 := by
    simp [wayL, gt, List.getD, List.getElem?_map, List.getElem?_eq_getElem hl]
  rw [this]
  rfl

section
variable {h : Hp} {a b n : Nat} {N : NN} {tr : Int}

theorem RS.kids2 {N : NN} {c : Cx} {pp : Int} {l r : Tr} {v : Nat} (h : RS N false (plug (.nd l v r) c) pp) : ((N v).k0 = l.rt ∧ (N v).k1 = r.rt) ∨ ((N v).k0 = r.rt ∧ (N v).k1 = l.rt) := by
  obtain ⟨c', h1⟩ := RS_sub h
  obtain ⟨_, a2, _⟩ := h1
  split at a2
  · exact .inr a2
  · exact .inl a2

theorem push_TT (d : FS h a b n N tr) {l r : Tr} {v : Nat} {c : Cx} {pp : Int} (t : TT n N (plug (.nd l v r) c) pp) (K : Hp → Prop)
    (hK : ∀ h' N', FS h' a b n N' tr → FrB a b h h' → h'.size = h.size → TT n N' (plug (.nd l v r) c) pp → Out N N' (plug (.nd l v r) c).seq → (N' v).rev = false → (∀ u, u ∈ cnodes c → (N' u).rev = (N u).rev) → K h') : g_lct_Forest_push (some ⟨a, 0, none⟩) (v : Int) h K := by
  have hv : v ∈ (plug (.nd l v r) c).seq := (mem_plug _ _ _).2 (.inl (by simp [Tr.seq]))
  have nd2 := (seqc_perm (Tr.nd l v r).seq c).nodup_iff.1 (by rw [← seq_plug]; exact t.nd)
  rw [List.nodup_append] at nd2
  obtain ⟨nA, nB, nAB⟩ := nd2
  simp only [Tr.seq] at nA
  rw [List.nodup_append, List.nodup_cons] at nA
  obtain ⟨nl, ⟨vr, nr⟩, lvr⟩ := nA
  have vl : v ∉ l.seq := fun q => lvr v q v (by simp) rfl
  have ml : ∀ u, u ∈ l.seq ∨ u ∈ r.seq → u ∈ (Tr.nd l v r).seq := fun u hu => by simp only [Tr.seq, List.mem_append, List.mem_cons]; exact hu.elim .inl fun q => .inr (.inr q)
  have rti : ∀ x : Tr, (∀ u, u ∈ x.seq → u ∈ l.seq ∨ u ∈ r.seq) → inI n x.rt := fun x hx => by
    cases x with
    | nil => exact .inl rfl
    | nd p k q => exact .inr ⟨k, rfl, t.lt k ((mem_plug _ _ _).2 (.inl (ml k (hx k (by simp [Tr.seq])))))⟩
  have il := rti l fun u hu => .inl hu
  have ir := rti r fun u hu => .inr hu
  have lne : l.rt ≠ v := fun q => vl (Tr.rt_mem q)
  have rne : r.rt ≠ v := fun q => vr (Tr.rt_mem q)
  have lr : l.rt = r.rt → l.rt = -1 := fun q => by
    cases hl : l with
    | nil => rfl
    | nd p k s =>
      have h1 : k ∈ l.seq := by rw [hl]; simp [Tr.seq]
      have h2 : k ∈ r.seq := Tr.rt_mem (by rw [← q, hl]; rfl)
      exact absurd rfl (lvr k h1 k (by simp [h2]))
  have kk := t.rs.kids2
  refine push_spec d (t.lt v hv) (by rcases kk with k | k <;> rw [k.1] <;> assumption) (by rcases kk with k | k <;> rw [k.2] <;> assumption) (fun q => ?_) (by rcases kk with k | k <;> rw [k.1] <;> assumption) (by rcases kk with k | k <;> rw [k.2] <;> assumption) K fun h' d' f' z' => hK h' _ d' f' z' ?_ ?_ (pushN_rev N v) fun u hu => ?_
  · rcases kk with k | k <;> rw [k.1, k.2] at q <;> rw [k.1]
    · exact lr q
    · rw [q]; exact lr q.symm
  · refine ⟨push_RS t.rs t.nd hv, t.ag.congr fun u _ => push_sag N v u, t.nd, t.lt, ?_⟩
    rcases t.pp with q | ⟨x, hx, hxn, hxT, hxk⟩
    · exact .inl q
    · refine .inr ⟨x, hx, hxn, hxT, ?_⟩
      have : pushN N v x = N x := push_same (fun e => hxT (e ▸ hv)) fun e => by
        have : (x : Int) = l.rt ∨ (x : Int) = r.rt := by rcases kk with k | k <;> rw [k.1, k.2] at e <;> rcases e with e | e <;> simp [e]
        rcases this with e | e
        · exact hxT ((mem_plug _ _ _).2 (.inl (ml x (.inl (Tr.rt_mem e.symm)))))
        · exact hxT ((mem_plug _ _ _).2 (.inl (ml x (.inr (Tr.rt_mem e.symm)))))
      rw [this]; exact hxk
  · refine ⟨fun u hu => push_same (fun e => hu (e ▸ hv)) fun e => ?_, fun u => (push_sag N v u).1, fun u => (push_sag N v u).2.2.2.1⟩
    have : (u : Int) = l.rt ∨ (u : Int) = r.rt := by rcases kk with k | k <;> rw [k.1, k.2] at e <;> rcases e with e | e <;> simp [e]
    rcases this with e | e
    · exact hu ((mem_plug _ _ _).2 (.inl (ml u (.inl (Tr.rt_mem e.symm)))))
    · exact hu ((mem_plug _ _ _).2 (.inl (ml u (.inr (Tr.rt_mem e.symm)))))
  · rw [push_same (fun e => ?_) fun e => ?_]
    · subst e; exact nAB u (by simp [Tr.seq]) u hu rfl
    · have : (u : Int) = l.rt ∨ (u : Int) = r.rt := by rcases kk with k | k <;> rw [k.1, k.2] at e <;> rcases e with e | e <;> simp [e]
      rcases this with e | e
      · exact nAB u (ml u (.inl (Tr.rt_mem e.symm))) u hu rfl
      · exact nAB u (ml u (.inr (Tr.rt_mem e.symm))) u hu rfl

/-- Which child a pushed node is. -/
theorem side_TT {l r s : Tr} {v p : Nat} {e : Bool} {c : Cx} {pp : Int} (t : TT n N (plug (.nd l v r) ((e, p, s) :: c)) pp) (hv : (N v).rev = false) (hc : ∀ f, f ∈ (e, p, s) :: c → (N f.2.1).rev = false) : (N v).up = p ∧ (if (N p).k1 = v then 1 else 0 : Int) = rI e := by
  have f := FZ.of hv hc t.rs t.ag
  obtain ⟨z1, z2, z3, z4, z5⟩ := f.z
  refine ⟨f.up, ?_⟩
  cases e
  · simp only [Bool.false_eq_true, if_false] at z3
    have : (N p).k1 ≠ v := by
      rw [z3.2]
      intro q
      have nd2 := (seqc_perm (Tr.nd l v r).seq ((false, p, s) :: c)).nodup_iff.1 (by rw [← seq_plug]; exact t.nd)
      rw [List.nodup_append] at nd2
      exact nd2.2.2 v (by simp [Tr.seq]) v (by simp [cnodes]; exact .inr (.inl (Tr.rt_mem q))) rfl
    rw [if_neg this]; rfl
  · simp only [if_true] at z3
    rw [if_pos z3.2]; rfl

set_option maxHeartbeats 1000000 in
/-- The turns. -/
theorem turn_spec (d : FS h a b n N tr) {l r : Tr} {v a1 : Nat} {c : Cx} {pp : Int} (t : TT n N (plug (.nd l v r) c) pp) (hv : (N v).rev = false) (hc : ∀ f, f ∈ c → (N f.2.1).rev = false) (ha1 : h.blk a1 = some (.cells [.pointer (some ⟨a, 0, none⟩)])) (ne1 : a1 ≠ a) (ne2 : a1 ≠ b) (la1 : a1 < h.size) (K : Hp → Prop)
    (hK : ∀ h' N' l' r', FS h' a b n N' tr → FrB a b h h' → h'.size = h.size → TT n N' (.nd l' v r') pp → (Tr.nd l' v r').seq = (plug (.nd l v r) c).seq → (N' v).rev = false → Out N N' (plug (.nd l v r) c).seq → K h') :
    loopP (fun K22 (t23 : Unit) (h24 : Hp) =>
        ldP h24 ⟨a1, 0, none⟩ fun p25 =>
        g_lct_Forest_top p25 (v : Int) h24 fun r26 h27 =>
        cnd (!r26)
        (ldP h27 ⟨a1, 0, none⟩ fun p28 =>
          nn p28 fun a29 =>
          ldS h27 (a29.add 1) fun s30 =>
          ix s30.a s30.n (v : Int) fun a31 =>
          ldI .i64 h27 ((a31.add (Int.toNat (v : Int) * 9)).add 0) fun n32 =>
          ldP h27 ⟨a1, 0, none⟩ fun p33 =>
          g_lct_Forest_top p33 n32 h27 fun r34 h35 =>
          cnd r34
          (ldP h35 ⟨a1, 0, none⟩ fun p36 =>
            g_lct_Forest_rotate p36 (v : Int) h35 fun h37 =>
            K h37)
          (ldP h35 ⟨a1, 0, none⟩ fun p38 =>
            ldP h35 ⟨a1, 0, none⟩ fun p39 =>
            g_lct_Forest_side p38 (v : Int) h35 fun r40 h41 =>
            (h41.cell ((⟨a1, 0, none⟩ : Addr).add 0) = some (.pointer p39)) ∧
            g_lct_Forest_side p39 n32 h41 fun r42 h43 =>
            cnd (r40 == r42)
            (ldP h43 ⟨a1, 0, none⟩ fun p44 =>
              g_lct_Forest_rotate p44 n32 h43 fun h45 =>
              ldP h45 ⟨a1, 0, none⟩ fun p46 =>
              g_lct_Forest_rotate p46 (v : Int) h45 fun h47 =>
              K22 (()) h47)
            (ldP h43 ⟨a1, 0, none⟩ fun p48 =>
              g_lct_Forest_rotate p48 (v : Int) h43 fun h49 =>
              ldP h49 ⟨a1, 0, none⟩ fun p50 =>
              g_lct_Forest_rotate p50 (v : Int) h49 fun h51 =>
              K22 (()) h51)))
        (K h27))
      (()) h := by
  obtain ⟨S, hS⟩ : ∃ S, S = (plug (.nd l v r) c).seq := ⟨_, rfl⟩
  rw [← hS] at hK
  have hvS : v ∈ S := by rw [hS]; exact (mem_plug _ _ _).2 (.inl (by simp [Tr.seq]))
  refine loop_of (fun m _ g => ∃ N' l r c, List.length c ≤ m ∧ FS g a b n N' tr ∧ FrB a b h g ∧ g.size = h.size ∧ TT n N' (plug (.nd l v r) c) pp ∧ (plug (.nd l v r) c).seq = S ∧ (N' v).rev = false ∧ (∀ f, f ∈ c → (N' f.2.1).rev = false) ∧ Out N N' S) ?_ (n := c.length)
    ⟨N, l, r, c, Nat.le_refl _, d, FrB.refl _ _ _, rfl, t, hS.symm, hv, hc, Out.refl _ _⟩
  clear t hv hc hS d
  rintro m Kw ⟨⟩ g ⟨N', l, r, c, hm, d, f, z, t, hs, hv, hc, o⟩ hKw
  have hvn : v < n := t.lt v (by rw [hs]; exact hvS)
  have lp : ∀ {g' : Hp} {X : Option Addr → Prop}, FrB a b h g' → X (some ⟨a, 0, none⟩) → ldP g' ⟨a1, 0, none⟩ X := fun {g' X} fg hX => ldP_of (by rw [cell_own ((fg.blk a1 la1 ne1 ne2).trans ha1)]; rfl) hX
  refine lp f (top_spec d hvn (t.inU rfl) _ fun x hx => cnd_of (fun cc => ?_) fun cc => ?_)
  · -- not yet
    have hne : c ≠ [] := fun q => by rw [hx.2 ((t.top rfl).2 q)] at cc; cases cc
    obtain ⟨⟨e, p, s⟩, c1, rfl⟩ : ∃ f c1, c = f :: c1 := by
      cases c with
      | nil => exact absurd rfl hne
      | cons f c1 => exact ⟨f, c1, rfl⟩
    obtain ⟨su, ss⟩ := side_TT t hv hc
    have hpT : p ∈ (plug (.nd l v r) ((e, p, s) :: c1)).seq := (mem_plug _ _ _).2 (.inr (by simp [cnodes]))
    have hpn := t.lt p hpT
    refine lp f (d.nd hvn (K := fun a31 => ldI .i64 g ((a31.add (Int.toNat (v : Int) * 9)).add 0) _) ?_)
    simp only [add_mk, Nat.zero_add, Int.toNat_natCast, Nat.add_zero]
    refine d.ldU hvn rfl ?_
    rw [su]
    -- the parent in focus
    have tp : ∃ l' r', TT n N' (plug (.nd l' p r') c1) pp ∧ (e = true → l' = s ∧ r' = .nd l v r) ∧ (e = false → l' = .nd l v r ∧ r' = s) := by
      cases e
      · exact ⟨.nd l v r, s, t, (fun q => by cases q), fun _ => ⟨rfl, rfl⟩⟩
      · exact ⟨s, .nd l v r, t, fun _ => ⟨rfl, rfl⟩, fun q => by cases q⟩
    obtain ⟨l', r', tp, tpt, tpf⟩ := tp
    have hp0 : (N' p).rev = false := hc (e, p, s) (List.mem_cons_self ..)
    have hc1 : ∀ f, f ∈ c1 → (N' f.2.1).rev = false := fun f hf => hc f (List.mem_cons_of_mem _ hf)
    refine lp f (top_spec d hpn (tp.inU rfl) _ fun x2 hx2 => cnd_of (fun c2 => ?_) fun c2 => ?_)
    · have : c1 = [] := (tp.top rfl).1 (hx2.1 c2)
      subst this
      refine lp f (rotate_TT d t hv hc _ fun h' N2 d2 f2 z2 t2 o2 rv2 => ?_)
      have e2 : plug (rotT e l v r p s) [] = rotT e l v r p s := rfl
      rw [e2] at t2
      have sq : (rotT e l v r p s).seq = S := by rw [rotT_seq, ← hs, seq_plug]; rfl
      rw [hs] at o2
      cases e
      · exact hK h' N2 _ _ d2 (f.trans f2) (by omega) t2 sq (by rw [rv2]; exact hv) (o.trans o2)
      · exact hK h' N2 _ _ d2 (f.trans f2) (by omega) t2 sq (by rw [rv2]; exact hv) (o.trans o2)
    · have hne1 : c1 ≠ [] := fun q => by rw [hx2.2 ((tp.top rfl).2 q)] at c2; cases c2
      obtain ⟨⟨e2, q, s2⟩, c3, rfl⟩ : ∃ f c3, c1 = f :: c3 := by
        cases c1 with
        | nil => exact absurd rfl hne1
        | cons f c1 => exact ⟨f, c1, rfl⟩
      obtain ⟨su2, ss2⟩ := side_TT tp hp0 hc1
      have hqn : q < n := tp.lt q ((mem_plug _ _ _).2 (.inr (by simp [cnodes])))
      refine lp f (lp f (side_spec d hvn su hpn _ ?_))
      rw [ss]
      refine ⟨by rw [cell_own ((f.blk a1 la1 ne1 ne2).trans ha1)]; rfl, side_spec d hpn su2 hqn _ ?_⟩
      rw [ss2]
      have hm' : c3.length + 2 ≤ m := by simpa using hm
      have hc3 : ∀ f, f ∈ c3 → (N' f.2.1).rev = false := fun f hf => hc1 f (List.mem_cons_of_mem _ hf)
      refine cnd_of (fun c4 => ?_) fun c4 => ?_
      · have ee : e = e2 := by
          simp only [beq_iff_eq] at c4
          cases e <;> cases e2 <;> first | rfl | (simp [rI] at c4)
        subst ee
        refine lp f (rotate_TT d tp hp0 hc1 _ fun h' N2 d2 f2 z2 t2 o2 rv2 => lp (f.trans f2) ?_)
        have hsq : (plug (.nd l' p r') ((e, q, s2) :: c3)).seq = S := by
          rw [← hs]
          cases e
          · obtain ⟨rfl, rfl⟩ := tpf rfl; rfl
          · obtain ⟨rfl, rfl⟩ := tpt rfl; rfl
        have sq2 : (plug (rotT e l' p r' q s2) c3).seq = S := by rw [seq_plug, rotT_seq, ← hsq, seq_plug]; rfl
        rw [hsq] at o2
        -- v below p again
        obtain ⟨s3, hs3⟩ : ∃ s3, plug (rotT e l' p r' q s2) c3 = plug (.nd l v r) ((e, p, s3) :: c3) := by
          cases e
          · obtain ⟨rfl, rfl⟩ := tpf rfl; exact ⟨.nd r' q s2, rfl⟩
          · obtain ⟨rfl, rfl⟩ := tpt rfl; exact ⟨.nd s2 q l', rfl⟩
        rw [hs3] at t2 sq2
        have hc2 : ∀ f, f ∈ (e, p, s3) :: c3 → (N2 f.2.1).rev = false := fun f hf => by
          rw [rv2]
          rcases List.mem_cons.1 hf with rfl | hf
          · exact hp0
          · exact hc3 f hf
        refine rotate_TT d2 t2 (by rw [rv2]; exact hv) hc2 _ fun h'' N3 d3 f3 z3 t3 o3 rv3 => ?_
        rw [sq2] at o3
        have sq3 : (plug (rotT e l v r p s3) c3).seq = S := by rw [seq_plug, rotT_seq, ← sq2, seq_plug]; rfl
        obtain ⟨l4, r4, h4⟩ : ∃ l4 r4, rotT e l v r p s3 = .nd l4 v r4 := by cases e <;> exact ⟨_, _, rfl⟩
        rw [h4] at t3 sq3
        obtain ⟨m', rfl⟩ : ∃ m', m = m' + 1 := ⟨m - 1, by omega⟩
        exact hKw m' rfl () h'' ⟨N3, l4, r4, c3, by omega, d3, (f.trans f2).trans f3, by omega, t3, sq3, by rw [rv3, rv2]; exact hv, fun f hf => by rw [rv3, rv2]; exact hc3 f hf, (o.trans o2).trans o3⟩
      · refine lp f (rotate_TT d t hv hc _ fun h' N2 d2 f2 z2 t2 o2 rv2 => lp (f.trans f2) ?_)
        rw [hs] at o2
        obtain ⟨l3, r3, h3⟩ : ∃ l3 r3, rotT e l v r p s = .nd l3 v r3 := by cases e <;> exact ⟨_, _, rfl⟩
        have sq2 : (plug (rotT e l v r p s) ((e2, q, s2) :: c3)).seq = S := by rw [seq_plug, rotT_seq, ← hs, seq_plug]; rfl
        rw [h3] at t2 sq2
        refine rotate_TT d2 t2 (by rw [rv2]; exact hv) (fun f hf => by rw [rv2]; exact hc1 f hf) _ fun h'' N3 d3 f3 z3 t3 o3 rv3 => ?_
        rw [sq2] at o3
        have sq3 : (plug (rotT e2 l3 v r3 q s2) c3).seq = S := by rw [seq_plug, rotT_seq, ← sq2, seq_plug]; rfl
        obtain ⟨l4, r4, h4⟩ : ∃ l4 r4, rotT e2 l3 v r3 q s2 = .nd l4 v r4 := by cases e2 <;> exact ⟨_, _, rfl⟩
        rw [h4] at t3 sq3
        obtain ⟨m', rfl⟩ : ∃ m', m = m' + 1 := ⟨m - 1, by omega⟩
        exact hKw m' rfl () h'' ⟨N3, l4, r4, c3, by omega, d3, (f.trans f2).trans f3, by omega, t3, sq3, by rw [rv3, rv2]; exact hv, fun f hf => by rw [rv3, rv2]; exact hc3 f hf, (o.trans o2).trans o3⟩
  · have : c = [] := (t.top rfl).1 (hx.1 (by simpa using cc))
    subst this
    exact hK g N' l r d f z t hs hv o
end

end Go.Hx
