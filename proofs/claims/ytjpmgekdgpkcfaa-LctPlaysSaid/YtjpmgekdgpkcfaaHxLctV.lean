/- Rotations. Plain; no program. No condition. -/
import Derived.Test.YtjpmgekdgpkcfaaHxLctU
namespace Go.Hx
set_option linter.unusedSimpArgs false
set_option linter.unusedVariables false

def setU (N : NN) (u : Nat) (x : Int) : NN := fun w => if w = u then { N w with up := x } else N w
def setK (N : NN) (u : Nat) (d : Bool) (x : Int) : NN := fun w => if w = u then (if d = true then { N w with k1 := x } else { N w with k0 := x }) else N w

theorem setU_out {N : NN} {u w : Nat} {x : Int} (h : w ≠ u) : setU N u x w = N w := by unfold setU; rw [if_neg h]
theorem setU_at (N : NN) (u : Nat) (x : Int) : setU N u x u = { N u with up := x } := by unfold setU; rw [if_pos rfl]
theorem setK_out {N : NN} {u w : Nat} {d : Bool} {x : Int} (h : w ≠ u) : setK N u d x w = N w := by unfold setK; rw [if_neg h]
theorem setK_at (N : NN) (u : Nat) (d : Bool) (x : Int) : setK N u d x u = if d = true then { N u with k1 := x } else { N u with k0 := x } := by unfold setK; rw [if_pos rfl]

/-- The first steps of a rotation. s: v is the right child of p; g: whose child p is, and which. -/
def rot1 (N : NN) (v p : Nat) (s : Bool) (g : Option (Nat × Bool)) : NN := match g with
  | none => N
  | some (g, d) => setK N g d (v : Int)
def rotK (N : NN) (v : Nat) (s : Bool) : Int := if s = true then (N v).k0 else (N v).k1
def rot6 (N : NN) (v p : Nat) (s : Bool) (g : Option (Nat × Bool)) : NN :=
  let k := rotK (rot1 N v p s g) v s
  let N2 := setK (rot1 N v p s g) p s k
  let N3 := if k = -1 then N2 else setU N2 k.toNat (p : Int)
  setU (setU (setK N3 v (!s) (p : Int)) v (N p).up) p (v : Int)
def rotN (N : NN) (v p : Nat) (s : Bool) (g : Option (Nat × Bool)) : NN := pullN (pullN (rot6 N v p s g) p) v

theorem setU_sag (N : NN) (u : Nat) (x : Int) (w : Nat) : sag N (setU N u x) w := by
  unfold setU sag
  by_cases h : w = u <;> simp [h]
theorem setK_sag (N : NN) (u : Nat) (d : Bool) (x : Int) (w : Nat) : sag N (setK N u d x) w := by
  unfold setK sag
  by_cases h : w = u
  · subst h; cases d <;> simp
  · simp [h]
theorem sag.trans {N N' N'' : NN} {u : Nat} (a : sag N N' u) (b : sag N' N'' u) : sag N N'' u := by
  obtain ⟨a1, a2, a3, a4, a5⟩ := a
  obtain ⟨b1, b2, b3, b4, b5⟩ := b
  exact ⟨b1.trans a1, b2.trans a2, b3.trans a3, b4.trans a4, b5.trans a5⟩
theorem sag.refl (N : NN) (u : Nat) : sag N N u := ⟨rfl, rfl, rfl, rfl, rfl⟩
theorem setU_rev (N : NN) (u : Nat) (x : Int) (w : Nat) : (setU N u x w).rev = (N w).rev := by
  unfold setU; by_cases h : w = u <;> simp [h]
theorem setK_rev (N : NN) (u : Nat) (d : Bool) (x : Int) (w : Nat) : (setK N u d x w).rev = (N w).rev := by
  unfold setK
  by_cases h : w = u
  · subst h; cases d <;> simp
  · simp [h]

theorem rot1_sag (N : NN) (v p : Nat) (s : Bool) (g : Option (Nat × Bool)) (w : Nat) : sag N (rot1 N v p s g) w ∧ (rot1 N v p s g w).rev = (N w).rev := by
  unfold rot1
  cases g with
  | none => exact ⟨sag.refl _ _, rfl⟩
  | some x => obtain ⟨g, e⟩ := x; exact ⟨setK_sag _ _ _ _ _, setK_rev _ _ _ _ _⟩
theorem rot6_sag (N : NN) (v p : Nat) (s : Bool) (g : Option (Nat × Bool)) (w : Nat) : sag N (rot6 N v p s g) w ∧ (rot6 N v p s g w).rev = (N w).rev := by
  obtain ⟨h1, h2⟩ := rot1_sag N v p s g w
  unfold rot6
  simp only
  refine ⟨?_, ?_⟩
  · refine sag.trans ?_ (setU_sag _ _ _ _)
    refine sag.trans ?_ (setU_sag _ _ _ _)
    refine sag.trans ?_ (setK_sag _ _ _ _ _)
    split
    · exact sag.trans h1 (setK_sag _ _ _ _ _)
    · exact sag.trans (sag.trans h1 (setK_sag _ _ _ _ _)) (setU_sag _ _ _ _)
  · rw [setU_rev, setU_rev, setK_rev]
    split
    · rw [setK_rev, h2]
    · rw [setU_rev, setK_rev, h2]

/-- Whose child a root of a part is. -/
def gOf : Cx → Option (Nat × Bool)
  | [] => none
  | (d, g, _) :: _ => some (g, d)

def rotT (d : Bool) (l : Tr) (v : Nat) (r : Tr) (p : Nat) (s : Tr) : Tr := if d = true then .nd (.nd s p l) v r else .nd l v (.nd r p s)

theorem rotT_seq (d : Bool) (l : Tr) (v : Nat) (r : Tr) (p : Nat) (s : Tr) : (rotT d l v r p s).seq = up1 d p s (Tr.nd l v r).seq := by
  cases d <;> simp [rotT, up1, Tr.seq]

/-- A pushed node, with what is below and above. -/
structure FZ (N : NN) (l : Tr) (v : Nat) (r : Tr) (c : Cx) (pp : Int) : Prop where
  up : (N v).up = upc c pp
  rev : (N v).rev = false
  k0 : (N v).k0 = l.rt
  k1 : (N v).k1 = r.rt
  rl : RS N false l v
  rr : RS N false r v
  z : ZC N v c pp
  al : AG N l
  ar : AG N r
  av : agg N v (Tr.nd l v r).seq
  ac : AGC N (Tr.nd l v r).seq c

theorem FZ.plug {N : NN} {l r : Tr} {v : Nat} {c : Cx} {pp : Int} (f : FZ N l v r c pp) : RS N false (plug (.nd l v r) c) pp ∧ AG N (plug (.nd l v r) c) := by
  refine ⟨plug_RS (t := .nd l v r) ⟨f.up, ?_, ?_, ?_⟩ f.z, AG_plug.2 ⟨⟨f.av, f.al, f.ar⟩, f.ac⟩⟩
  all_goals simp only [f.rev, Bool.xor_false, Bool.false_eq_true, if_false]
  · exact ⟨f.k0, f.k1⟩
  · exact f.rl
  · exact f.rr

theorem FZ.of {N : NN} {l r : Tr} {v : Nat} {c : Cx} {pp : Int} (hv : (N v).rev = false) (hc : ∀ f, f ∈ c → (N f.2.1).rev = false) (h : RS N false (Go.Hx.plug (.nd l v r) c) pp) (g : AG N (Go.Hx.plug (.nd l v r) c)) : FZ N l v r c pp := by
  obtain ⟨h1, h2⟩ := ZC_plug hc h
  obtain ⟨⟨g1, g2, g3⟩, g4⟩ := AG_plug.1 g
  obtain ⟨a1, a2, a3, a4⟩ := h1
  simp only [hv, Bool.xor_false, Bool.false_eq_true, if_false] at a2 a3 a4
  exact ⟨a1, hv, a2.1, a2.2, a3, a4, h2, g2, g3, g1, g4⟩

/-- A rotation. -/
theorem rot_FZ {N : NN} {l r s : Tr} {v p : Nat} {d : Bool} {c : Cx} {pp : Int} (f : FZ N l v r ((d, p, s) :: c) pp) (nd : (plug (.nd l v r) ((d, p, s) :: c)).seq.Nodup) (hl : (plug (.nd l v r) ((d, p, s) :: c)).seq.length < 2 ^ 62) :
    (d = true → FZ (rotN N v p d (gOf c)) (.nd s p l) v r c pp ∧ (∀ n, (∀ u, u ∈ (plug (.nd l v r) ((d, p, s) :: c)).seq → u < n) → PO n (rot6 N v p d (gOf c)) p ∧ PO n (pullN (rot6 N v p d (gOf c)) p) v)) ∧ (d = false → FZ (rotN N v p d (gOf c)) l v (.nd r p s) c pp ∧ (∀ n, (∀ u, u ∈ (plug (.nd l v r) ((d, p, s) :: c)).seq → u < n) → PO n (rot6 N v p d (gOf c)) p ∧ PO n (pullN (rot6 N v p d (gOf c)) p) v)) ∧ (∀ u, u ∉ (Tr.nd l v r).seq → u ∉ cnodes ((d, p, s) :: c) → rotN N v p d (gOf c) u = N u) ∧
      ∀ u, (rotN N v p d (gOf c) u).key = (N u).key ∧ (rotN N v p d (gOf c) u).hang = (N u).hang ∧ (rotN N v p d (gOf c) u).rev = (N u).rev := by
  -- who is not who
  have pm := seqc_perm (Tr.nd l v r).seq ((d, p, s) :: c)
  rw [seq_plug] at nd hl
  have mem : ∀ u, (u ∈ l.seq ∨ u = v ∨ u ∈ r.seq) ∨ u = p ∨ u ∈ s.seq → u ∈ (plug (.nd l v r) ((d, p, s) :: c)).seq := fun u hu => by
    rw [seq_plug]
    refine pm.mem_iff.2 ?_
    simp only [Tr.seq, cnodes, List.flatMap_cons, List.mem_append, List.mem_cons]
    rcases hu with hu | hu | hu
    · exact .inl hu
    · exact .inr (.inl (.inl hu))
    · exact .inr (.inl (.inr hu))
  have nd2 := pm.nodup_iff.1 nd
  rw [pm.length_eq] at hl
  have ecn : cnodes ((d, p, s) :: c) = p :: (s.seq ++ cnodes c) := by simp [cnodes]
  rw [ecn] at nd2 hl
  simp only [Tr.seq] at nd2
  rw [List.nodup_append] at nd2
  obtain ⟨nA, nB, nAB⟩ := nd2
  rw [List.nodup_append, List.nodup_cons] at nA
  obtain ⟨nl, ⟨vr, nr⟩, lvr⟩ := nA
  rw [List.nodup_cons, List.nodup_append] at nB
  obtain ⟨pB, ns, nc, sc⟩ := nB
  have vl : v ∉ l.seq := fun q => lvr v q v (by simp) rfl
  have lr : ∀ u, u ∈ l.seq → u ∉ r.seq := fun u hu hr => lvr u hu u (by simp [hr]) rfl
  have ab : ∀ u, (u ∈ l.seq ∨ u = v ∨ u ∈ r.seq) → u ≠ p ∧ u ∉ s.seq ∧ u ∉ cnodes c := fun u hu => by
    have hu' : u ∈ l.seq ++ v :: r.seq := by simpa using hu
    exact ⟨fun e => nAB u hu' u (by simp [e]) rfl, fun h => nAB u hu' u (by simp [h]) rfl, fun h => nAB u hu' u (by simp [h]) rfl⟩
  have ps : p ∉ s.seq := fun q => pB (by simp [q])
  have pc : p ∉ cnodes c := fun q => pB (by simp [q])
  have sc' : ∀ u, u ∈ s.seq → u ∉ cnodes c := fun u hu hc => sc u hu u hc rfl
  have hvp : v ≠ p := (ab v (.inr (.inl rfl))).1
  obtain ⟨z1, z2, z3, z4, z5⟩ := f.z
  obtain ⟨c1, c2, c3⟩ := f.ac
  have fup : (N v).up = (p : Int) := f.up
  -- the part that moves
  obtain ⟨m, hm⟩ : ∃ m : Tr, m = if d = true then l else r := ⟨_, rfl⟩
  have mseq : ∀ u, u ∈ m.seq → (u ∈ l.seq ∨ u = v ∨ u ∈ r.seq) ∧ u ≠ v := fun u hu => by
    subst hm
    cases d
    · simp only [Bool.false_eq_true, if_false] at hu; exact ⟨.inr (.inr hu), fun e => vr (e ▸ hu)⟩
    · simp only [if_true] at hu; exact ⟨.inl hu, fun e => vl (e ▸ hu)⟩
  have gv : ∀ g e, gOf c = some (g, e) → g ≠ v ∧ g ≠ p ∧ g ∈ cnodes c := fun g e h => by
    cases c with
    | nil => cases h
    | cons x c =>
      obtain ⟨a, b, t⟩ := x
      simp only [gOf, Option.some.injEq, Prod.mk.injEq] at h
      obtain ⟨rfl, rfl⟩ := h
      have hb : b ∈ cnodes ((a, b, t) :: c) := by simp [cnodes]
      exact ⟨fun q => (ab v (.inr (.inl rfl))).2.2 (q ▸ hb), fun q => pc (q ▸ hb), hb⟩
  have r1out : ∀ w, (∀ g e, gOf c = some (g, e) → w ≠ g) → rot1 N v p d (gOf c) w = N w := fun w h => by
    unfold rot1
    cases hg : gOf c with
    | none => rfl
    | some x => obtain ⟨g, e⟩ := x; exact setK_out (h g e hg)
  have r1v : rot1 N v p d (gOf c) v = N v := r1out v fun g e h => (gv g e h).1.symm
  have r1p : rot1 N v p d (gOf c) p = N p := r1out p fun g e h => (gv g e h).2.1.symm
  have hk : rotK (rot1 N v p d (gOf c)) v d = m.rt := by
    unfold rotK; rw [r1v, hm]
    cases d
    · simp [f.k1]
    · simp [f.k0]
  have mk : ∀ k : Nat, m.rt = (k : Int) → k ∈ m.seq := fun k h => Tr.rt_mem h
  obtain ⟨N6, h6⟩ : ∃ N6, N6 = rot6 N v p d (gOf c) := ⟨_, rfl⟩
  have sg : ∀ u, sag N N6 u := fun u => by rw [h6]; exact (rot6_sag ..).1
  have sr : ∀ u, (N6 u).rev = (N u).rev := fun u => by rw [h6]; exact (rot6_sag ..).2
  have hN : rotN N v p d (gOf c) = pullN (pullN N6 p) v := by rw [h6]; rfl
  -- the nodes after the steps
  have h3 : ∀ w, w ≠ p → ((if m.rt = -1 then setK (rot1 N v p d (gOf c)) p d m.rt else setU (setK (rot1 N v p d (gOf c)) p d m.rt) m.rt.toNat (p : Int)) w) = if (w : Int) = m.rt then { rot1 N v p d (gOf c) w with up := (p : Int) } else rot1 N v p d (gOf c) w := fun w hw => by
    by_cases q : m.rt = -1
    · rw [if_pos q, if_neg (by omega), setK_out hw]
    · have mn : ∃ k : Nat, m.rt = k := by
        cases m with
        | nil => exact absurd rfl q
        | nd a b e => exact ⟨b, rfl⟩
      obtain ⟨k, hk'⟩ := mn
      rw [if_neg q, hk', Int.toNat_natCast]
      by_cases e : w = k
      · subst e; rw [if_pos rfl, setU_at, setK_out hw]
      · rw [if_neg (by omega), setU_out e, setK_out hw]
  have h3p : ((if m.rt = -1 then setK (rot1 N v p d (gOf c)) p d m.rt else setU (setK (rot1 N v p d (gOf c)) p d m.rt) m.rt.toNat (p : Int)) p) = if d = true then { N p with k1 := m.rt } else { N p with k0 := m.rt } := by
    have : ∀ k : Nat, m.rt = k → p ≠ k := fun k hk e => by
      subst e
      exact (ab p (mseq p (mk p hk)).1).1 rfl
    by_cases q : m.rt = -1
    · rw [if_pos q, setK_at, r1p]
    · have mn : ∃ k : Nat, m.rt = k := by
        cases m with
        | nil => exact absurd rfl q
        | nd a b e => exact ⟨b, rfl⟩
      obtain ⟨k, hk'⟩ := mn
      rw [if_neg q, setU_out (by rw [hk', Int.toNat_natCast]; exact this k hk'), setK_at, r1p]
  have e6 : ∀ w, N6 w = setU (setU (setK (if m.rt = -1 then setK (rot1 N v p d (gOf c)) p d m.rt else setU (setK (rot1 N v p d (gOf c)) p d m.rt) m.rt.toNat (p : Int)) v (!d) (p : Int)) v (N p).up) p (v : Int) w := fun w => by
    rw [h6]; unfold rot6; simp only [hk]
  have a6v : N6 v = if d = true then { N v with up := (N p).up, k0 := (p : Int) } else { N v with up := (N p).up, k1 := (p : Int) } := by
    have : ¬ (v : Int) = m.rt := fun e => (mseq v (mk v e.symm)).2 rfl
    rw [e6, setU_out hvp, setU_at, setK_at, h3 v hvp, if_neg this, r1v]
    cases d <;> rfl
  have a6p : N6 p = if d = true then { N p with up := (v : Int), k1 := m.rt } else { N p with up := (v : Int), k0 := m.rt } := by
    rw [e6, setU_at, setU_out (Ne.symm hvp), setK_out (Ne.symm hvp), h3p]
    cases d <;> rfl
  have a6 : ∀ w, w ≠ v → w ≠ p → N6 w = if (w : Int) = m.rt then { rot1 N v p d (gOf c) w with up := (p : Int) } else rot1 N v p d (gOf c) w := fun w h1 h2 => by
    rw [e6, setU_out h2, setU_out h1, setK_out h1, h3 w h2]
  have nog : ∀ w, w ∉ cnodes c → ∀ g e, gOf c = some (g, e) → w ≠ g := fun w hw g e h q => hw (q ▸ (gv g e h).2.2)
  have a6m : ∀ u, u ∈ m.seq → N6 u = if (u : Int) = m.rt then { N u with up := (p : Int) } else N u := fun u hu => by
    obtain ⟨h1, h2⟩ := mseq u hu
    obtain ⟨h3', h4, h5⟩ := ab u h1
    rw [a6 u h2 h3', r1out u (nog u h5)]
  have a6o : ∀ u, u ≠ v → u ≠ p → u ∉ m.seq → u ∉ cnodes c → N6 u = N u := fun u h1 h2 h4 h5 => by
    rw [a6 u h1 h2, if_neg (fun e => h4 (mk u e.symm)), r1out u (nog u h5)]
  have a6c : ∀ u, u ∈ cnodes c → N6 u = rot1 N v p d (gOf c) u := fun u hu => by
    have h1 : u ≠ v := fun e => (ab v (.inr (.inl rfl))).2.2 (e ▸ hu)
    have h2 : u ≠ p := fun e => pc (e ▸ hu)
    rw [a6 u h1 h2, if_neg]
    intro e
    exact (ab u (mseq u (mk u e.symm)).1).2.2 hu
  -- the structure
  have sm : ∀ u, sam N6 (pullN (pullN N6 p) v) u := fun u => by
    obtain ⟨b1, b2, b3, b4⟩ := pullN_sam N6 p u
    obtain ⟨d1, d2, d3, d4⟩ := pullN_sam (pullN N6 p) v u
    exact ⟨d1.trans b1, d2.trans b2, d3.trans b3, d4.trans b4⟩
  have kh : ∀ u, ((pullN (pullN N6 p) v) u).key = (N u).key ∧ ((pullN (pullN N6 p) v) u).hang = (N u).hang ∧ ((pullN (pullN N6 p) v) u).rev = (N u).rev := fun u => by
    obtain ⟨b1, b2⟩ := pullN_kh N6 p u
    obtain ⟨d1, d2⟩ := pullN_kh (pullN N6 p) v u
    obtain ⟨s1, _, _, s4, _⟩ := sg u
    exact ⟨d1.trans (b1.trans s1), d2.trans (b2.trans s4), ((sm u).2.2.2).trans (sr u)⟩
  have RSm : RS N6 false m p := by
    have : RS N false m v := by
      subst hm
      cases d
      · exact f.rr
      · exact f.rl
    have nm : m.seq.Nodup := by
      subst hm
      cases d
      · exact nr
      · exact nl
    refine this.repar nm fun u hu => ?_
    rw [a6m u hu]
    split <;> exact ⟨rfl, rfl, rfl, rfl⟩
  have RSs : RS N6 false s p := z4.congr fun u hu => by
    have h1 : u ≠ v := fun e => (ab v (.inr (.inl rfl))).2.1 (e ▸ hu)
    have h2 : u ≠ p := fun e => ps (e ▸ hu)
    rw [sam, a6o u h1 h2 (fun q => (ab u (mseq u q).1).2.1 hu) (sc' u hu)]
    exact ⟨rfl, rfl, rfl, rfl⟩
  have ZC6 : ZC N6 v c pp := by
    cases c with
    | nil => trivial
    | cons x c =>
      obtain ⟨e, g, t⟩ := x
      obtain ⟨y1, y2, y3, y4, y5⟩ := z5
      have hg : g ∈ cnodes ((e, g, t) :: c) := by simp [cnodes]
      have nc' : (g :: (t.seq ++ cnodes c)).Nodup := by simpa [cnodes] using nc
      rw [List.nodup_cons] at nc'
      have eg : N6 g = if e = true then { N g with k1 := (v : Int) } else { N g with k0 := (v : Int) } := by
        rw [a6c g hg]; exact setK_at _ _ _ _
      have eo : ∀ u, u ∈ t.seq ++ cnodes c → N6 u = N u := fun u hu => by
        rw [a6c u (by simp only [cnodes, List.flatMap_cons, List.mem_append, List.mem_cons] at hu ⊢; exact hu.imp_left .inr)]
        exact setK_out fun q => nc'.1 (q ▸ hu)
      refine ⟨?_, by rw [sr g]; exact y2, ?_, y4.congr fun u hu => ?_, y5.congr fun u hu => ?_⟩
      · rw [eg]; cases e <;> exact y1
      · rw [eg]
        cases e
        · simp only [Bool.false_eq_true, if_false] at y3 ⊢; exact ⟨trivial, y3.2⟩
        · simp only [if_true] at y3 ⊢; exact ⟨y3.1, trivial⟩
      · rw [sam, eo u (List.mem_append_left _ hu)]; exact ⟨rfl, rfl, rfl, rfl⟩
      · rw [sam, eo u (List.mem_append_right _ hu)]; exact ⟨rfl, rfl, rfl, rfl⟩
  -- the sums
  have AG6 : ∀ {t : Tr}, AG N t → AG N6 t := fun h => h.congr fun u _ => sg u
  have lenA : (l.seq ++ v :: r.seq ++ p :: (s.seq ++ cnodes c)).length < 2 ^ 62 := hl
  simp only [List.length_append, List.length_cons] at lenA
  have sag8 : ∀ u, u ≠ v → u ≠ p → sag N (pullN (pullN N6 p) v) u := fun u h1 h2 => by
    rw [sag, pullN_out h1, pullN_out h2]; exact sg u
  have AGC8 : AGC (pullN (pullN N6 p) v) (up1 d p s (Tr.nd l v r).seq) c := c3.congr (fun u hu => sag8 u (fun e => (ab v (.inr (.inl rfl))).2.2 (e ▸ hu)) fun e => pc (e ▸ hu)) fun u _ => ⟨(kh u).1, (kh u).2.1⟩
  refine ⟨fun hd => ?_, fun hd => ?_, fun u h1 h2 => ?_, fun u => by rw [hN]; exact kh u⟩
  · subst hd
    simp only [if_true] at hm a6v a6p z3
    subst hm
    have g7 : agg (pullN N6 p) p (s.seq ++ p :: m.seq) := pull_agg (by rw [a6p]; exact z3.1) (by rw [a6p]) (AG6 c2) (AG6 f.al) (by simp only [List.length_append, List.length_cons]; omega)
    have G7 : AG (pullN N6 p) (.nd s p m) := ⟨g7, (AG6 c2).congr fun u hu => by rw [sag, pullN_out (show u ≠ p from fun e => ps (e ▸ hu))]; exact ⟨rfl, rfl, rfl, rfl, rfl⟩, (AG6 f.al).congr fun u hu => by rw [sag, pullN_out (show u ≠ p from (ab u (.inl hu)).1)]; exact ⟨rfl, rfl, rfl, rfl, rfl⟩⟩
    have G7r : AG (pullN N6 p) r := (AG6 f.ar).congr fun u hu => by rw [sag, pullN_out (show u ≠ p from (ab u (.inr (.inr hu))).1)]; exact ⟨rfl, rfl, rfl, rfl, rfl⟩
    have s7 := pullN_sam N6 p v
    have g8 : agg (pullN (pullN N6 p) v) v ((Tr.nd s p m).seq ++ v :: r.seq) := pull_agg (by rw [s7.2.1, a6v]; rfl) (by rw [s7.2.2.1, a6v]; exact f.k1) G7 G7r (by simp only [Tr.seq, List.length_append, List.length_cons]; omega)
    rw [hN]
    have o8 : ∀ {t : Tr}, AG (pullN N6 p) t → v ∉ t.seq → AG (pullN (pullN N6 p) v) t := fun h hv => h.congr fun u hu => by rw [sag, pullN_out (show u ≠ v from fun e => hv (e ▸ hu))]; exact ⟨rfl, rfl, rfl, rfl, rfl⟩
    have vns : v ∉ (Tr.nd s p m).seq := by
      simp only [Tr.seq, List.mem_append, List.mem_cons]
      rintro (q | q | q)
      · exact (ab v (.inr (.inl rfl))).2.1 q
      · exact hvp q
      · exact vl q
    refine ⟨⟨?_, ?_, ?_, ?_, ?_, ?_, ?_, o8 G7 vns, o8 G7r vr, g8, ?_⟩, fun n hn => ?_⟩
    rotate_left 8
    · rw [← h6]
      refine ⟨PO.of (l := s) (r := m) (by rw [a6p]; exact z3.1) (by rw [a6p]) (AG6 c2) (AG6 f.al) (fun u hu => hn u (mem u ?_)) ⟨ps, fun q => (ab p (.inl q)).1 rfl⟩, PO.of (l := .nd s p m) (r := r) (by rw [s7.2.1, a6v]; rfl) (by rw [s7.2.2.1, a6v]; exact f.k1) G7 G7r (fun u hu => hn u (mem u ?_)) ⟨vns, vr⟩⟩
      · rcases hu with hu | hu
        · exact .inr (.inr hu)
        · exact .inl (.inl hu)
      · simp only [Tr.seq, List.mem_append, List.mem_cons] at hu
        rcases hu with (hu | hu | hu) | hu
        · exact .inr (.inr hu)
        · exact .inr (.inl hu)
        · exact .inl (.inl hu)
        · exact .inl (.inr (.inr hu))
    · rw [(sm v).1, a6v]; exact z1
    · rw [(kh v).2.2]; exact f.rev
    · rw [(sm v).2.1, a6v]; rfl
    · rw [(sm v).2.2.1, a6v]; exact f.k1
    · refine RS.congr (N := N6) (t := .nd s p m) ⟨by rw [a6p], ?_, ?_, ?_⟩ fun u _ => sm u
      all_goals rw [sr p, z2]; simp only [Bool.xor_false, Bool.false_eq_true, if_false]
      · rw [a6p]; exact ⟨z3.1, rfl⟩
      · exact RSs
      · exact RSm
    · refine RS.congr (N := N6) (f.rr.congr fun u hu => ?_) fun u _ => sm u
      rw [sam, a6o u (fun e => vr (e ▸ hu)) (ab u (.inr (.inr hu))).1 (fun q => lr u q hu) (ab u (.inr (.inr hu))).2.2]
      exact ⟨rfl, rfl, rfl, rfl⟩
    · exact ZC6.congr fun u _ => sm u
    · have : (Tr.nd (Tr.nd s p m) v r).seq = up1 true p s (Tr.nd m v r).seq := by simp [up1, Tr.seq]
      rw [this]; exact AGC8
  · subst hd
    simp only [Bool.false_eq_true, if_false] at hm a6v a6p z3
    subst hm
    have g7 : agg (pullN N6 p) p (m.seq ++ p :: s.seq) := pull_agg (by rw [a6p]) (by rw [a6p]; exact z3.2) (AG6 f.ar) (AG6 c2) (by simp only [List.length_append, List.length_cons]; omega)
    have G7 : AG (pullN N6 p) (.nd m p s) := ⟨g7, (AG6 f.ar).congr fun u hu => by rw [sag, pullN_out (show u ≠ p from (ab u (.inr (.inr hu))).1)]; exact ⟨rfl, rfl, rfl, rfl, rfl⟩, (AG6 c2).congr fun u hu => by rw [sag, pullN_out (show u ≠ p from fun e => ps (e ▸ hu))]; exact ⟨rfl, rfl, rfl, rfl, rfl⟩⟩
    have G7l : AG (pullN N6 p) l := (AG6 f.al).congr fun u hu => by rw [sag, pullN_out (show u ≠ p from (ab u (.inl hu)).1)]; exact ⟨rfl, rfl, rfl, rfl, rfl⟩
    have s7 := pullN_sam N6 p v
    have g8 : agg (pullN (pullN N6 p) v) v (l.seq ++ v :: (Tr.nd m p s).seq) := pull_agg (by rw [s7.2.1, a6v]; exact f.k0) (by rw [s7.2.2.1, a6v]; rfl) G7l G7 (by simp only [Tr.seq, List.length_append, List.length_cons]; omega)
    rw [hN]
    have o8 : ∀ {t : Tr}, AG (pullN N6 p) t → v ∉ t.seq → AG (pullN (pullN N6 p) v) t := fun h hv => h.congr fun u hu => by rw [sag, pullN_out (show u ≠ v from fun e => hv (e ▸ hu))]; exact ⟨rfl, rfl, rfl, rfl, rfl⟩
    have vns : v ∉ (Tr.nd m p s).seq := by
      simp only [Tr.seq, List.mem_append, List.mem_cons]
      rintro (q | q | q)
      · exact vr q
      · exact hvp q
      · exact (ab v (.inr (.inl rfl))).2.1 q
    refine ⟨⟨?_, ?_, ?_, ?_, ?_, ?_, ?_, o8 G7l vl, o8 G7 vns, g8, ?_⟩, fun n hn => ?_⟩
    rotate_left 8
    · rw [← h6]
      refine ⟨PO.of (l := m) (r := s) (by rw [a6p]) (by rw [a6p]; exact z3.2) (AG6 f.ar) (AG6 c2) (fun u hu => hn u (mem u ?_)) ⟨fun q => (ab p (.inr (.inr q))).1 rfl, ps⟩, PO.of (l := l) (r := .nd m p s) (by rw [s7.2.1, a6v]; exact f.k0) (by rw [s7.2.2.1, a6v]; rfl) G7l G7 (fun u hu => hn u (mem u ?_)) ⟨vl, vns⟩⟩
      · rcases hu with hu | hu
        · exact .inl (.inr (.inr hu))
        · exact .inr (.inr hu)
      · simp only [Tr.seq, List.mem_append, List.mem_cons] at hu
        rcases hu with hu | hu | hu | hu
        · exact .inl (.inl hu)
        · exact .inl (.inr (.inr hu))
        · exact .inr (.inl hu)
        · exact .inr (.inr hu)
    · rw [(sm v).1, a6v]; exact z1
    · rw [(kh v).2.2]; exact f.rev
    · rw [(sm v).2.1, a6v]; exact f.k0
    · rw [(sm v).2.2.1, a6v]; rfl
    · refine RS.congr (N := N6) (f.rl.congr fun u hu => ?_) fun u _ => sm u
      rw [sam, a6o u (fun e => vl (e ▸ hu)) (ab u (.inl hu)).1 (fun q => lr u hu q) (ab u (.inl hu)).2.2]
      exact ⟨rfl, rfl, rfl, rfl⟩
    · refine RS.congr (N := N6) (t := .nd m p s) ⟨by rw [a6p], ?_, ?_, ?_⟩ fun u _ => sm u
      all_goals rw [sr p, z2]; simp only [Bool.xor_false, Bool.false_eq_true, if_false]
      · rw [a6p]; exact ⟨rfl, z3.2⟩
      · exact RSm
      · exact RSs
    · exact ZC6.congr fun u _ => sm u
    · have : (Tr.nd l v (Tr.nd m p s)).seq = up1 false p s (Tr.nd l v m).seq := by simp [up1, Tr.seq]
      rw [this]; exact AGC8
  · rw [hN]
    have h2' : u ≠ p ∧ u ∉ s.seq ∧ u ∉ cnodes c := by
      simp only [ecn, List.mem_cons, List.mem_append, not_or] at h2; exact h2
    simp only [Tr.seq, List.mem_append, List.mem_cons, not_or] at h1
    rw [pullN_out h1.2.1, pullN_out h2'.1, a6o u h1.2.1 h2'.1 (fun q => ?_) h2'.2.2]
    rcases (mseq u q).1 with q | q | q
    · exact h1.1 q
    · exact h1.2.1 q
    · exact h1.2.2 q

end Go.Hx
