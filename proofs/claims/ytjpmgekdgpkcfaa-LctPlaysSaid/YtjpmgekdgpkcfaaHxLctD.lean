/- Link-cut forests: rotating a node within its tree; the way up. No condition. -/
import Derived.Test.YtjpmgekdgpkcfaaHxLctC
namespace Go.Hx
set_option linter.unusedSimpArgs false
set_option linter.unusedVariables false

/-- A tree in the nodes, whole: what its root hangs on, and that this one is elsewhere. -/
structure TT (n : Nat) (N : NN) (T : Tr) (pp : Int) : Prop where
  rs : RS N false T pp
  ag : AG N T
  nd : T.seq.Nodup
  lt : ∀ u, u ∈ T.seq → u < n
  pp : pp = -1 ∨ ∃ x : Nat, pp = x ∧ x < n ∧ x ∉ T.seq ∧ ∀ u, u ∈ T.seq → (N x).k0 ≠ u ∧ (N x).k1 ≠ u

theorem nodup_len : ∀ (n : Nat) (xs : List Nat), xs.Nodup → (∀ u, u ∈ xs → u < n) → xs.length ≤ n := by
  intro n
  induction n with
  | zero =>
    intro xs _ h
    cases xs with
    | nil => simp
    | cons x xs => have := h x (by simp); omega
  | succ n ih =>
    intro xs nd h
    have h1 := ih (xs.erase n) (nd.erase n) fun u hu => by
      have := h u (List.mem_of_mem_erase hu)
      have : u ≠ n := fun e => by
        subst e
        exact (List.Nodup.mem_erase_iff nd).1 hu |>.1 rfl
      omega
    by_cases hm : n ∈ xs
    · have := List.length_erase_of_mem hm
      omega
    · rw [List.erase_of_not_mem hm] at h1; omega

theorem TT.len {n : Nat} {N : NN} {T : Tr} {pp : Int} (t : TT n N T pp) : T.seq.length ≤ n := nodup_len n _ t.nd t.lt

/-- A part of a tree in the nodes. -/
theorem RS_sub {N : NN} {c : Cx} {pp : Int} {cc : Bool} {t : Tr} (h : RS N cc (plug t c) pp) : ∃ c', RS N c' t (upc c pp) := by
  induction c generalizing t with
  | nil => exact ⟨cc, h⟩
  | cons f c ih =>
    obtain ⟨d, p, s⟩ := f
    obtain ⟨c', h1⟩ := ih h
    cases d with
    | true => simp only [if_true] at h1; exact ⟨_, h1.2.2.2⟩
    | false => simp only [Bool.false_eq_true, if_false] at h1; exact ⟨_, h1.2.2.1⟩

theorem RS_up {N : NN} {c : Cx} {pp : Int} {cc : Bool} {l r : Tr} {u : Nat} (h : RS N cc (plug (.nd l u r) c) pp) : (N u).up = upc c pp := by
  obtain ⟨c', h1⟩ := RS_sub h; exact h1.1

theorem RS_kid {N : NN} {c : Cx} {pp : Int} {cc d : Bool} {t s : Tr} {p : Nat} (h : RS N cc (plug t ((d, p, s) :: c)) pp) : (N p).up = upc c pp ∧ ((N p).k0 = t.rt ∨ (N p).k1 = t.rt) := by
  cases d with
  | true =>
    obtain ⟨c', h1⟩ := RS_sub (t := .nd s p t) (c := c) h
    obtain ⟨a1, a2, _⟩ := h1
    refine ⟨a1, ?_⟩
    split at a2
    · exact .inl a2.1
    · exact .inr a2.2
  | false =>
    obtain ⟨c', h1⟩ := RS_sub (t := .nd t p s) (c := c) h
    obtain ⟨a1, a2, _⟩ := h1
    refine ⟨a1, ?_⟩
    split at a2
    · exact .inr a2.2
    · exact .inl a2.1

theorem mem_plug (t : Tr) (c : Cx) (u : Nat) : u ∈ (plug t c).seq ↔ u ∈ t.seq ∨ u ∈ cnodes c := by
  rw [seq_plug, (seqc_perm t.seq c).mem_iff, List.mem_append]

theorem find_plug {T : Tr} {v : Nat} (h : v ∈ T.seq) : ∃ l r c, T = plug (.nd l v r) c := by
  have key : ∀ (T : Tr) (c : Cx), v ∈ T.seq → ∃ l r c', plug T c = plug (.nd l v r) c' := by
    intro T
    induction T with
    | nil => intro c h; cases h
    | nd l u r il ir =>
      intro c h
      simp only [Tr.seq, List.mem_append, List.mem_cons] at h
      rcases h with h | rfl | h
      · exact il ((false, u, r) :: c) h
      · exact ⟨l, r, c, rfl⟩
      · exact ir ((true, u, l) :: c) h
  exact key T [] h

theorem TT.top {n : Nat} {N : NN} {T : Tr} {pp : Int} (t : TT n N T pp) {l r : Tr} {u : Nat} {c : Cx} (e : T = plug (.nd l u r) c) : topP N u ↔ c = [] := by
  subst e
  have hu := RS_up t.rs
  constructor
  · intro h
    cases c with
    | nil => rfl
    | cons f c =>
      obtain ⟨d, p, s⟩ := f
      obtain ⟨_, k⟩ := RS_kid t.rs
      exfalso
      simp only [Tr.rt] at k
      rcases h with h | ⟨x, hx, h0, h1⟩
      · rw [hu] at h; simp only [upc] at h; omega
      · rw [hu] at hx; simp only [upc] at hx
        obtain rfl : p = x := by omega
        exact k.elim h0 h1
  · rintro rfl
    rcases t.pp with h | ⟨x, hx, _, _, h⟩
    · exact .inl (hu.trans h)
    · exact .inr ⟨x, hu.trans hx, h u (by simp [plug, Tr.seq])⟩

theorem TT.inU {n : Nat} {N : NN} {T : Tr} {pp : Int} (t : TT n N T pp) {l r : Tr} {u : Nat} {c : Cx} (e : T = plug (.nd l u r) c) : inI n (N u).up := by
  subst e
  rw [RS_up t.rs]
  cases c with
  | nil =>
    rcases t.pp with h | ⟨x, hx, hn, _⟩
    · exact .inl h
    · exact .inr ⟨x, hx, hn⟩
  | cons f c =>
    obtain ⟨d, p, s⟩ := f
    exact .inr ⟨p, rfl, t.lt p ((mem_plug _ _ _).2 (.inr (by simp [cnodes])))⟩

/-- Outside a tree nothing changes, and the keys stay. -/
structure Out (N N' : NN) (xs : List Nat) : Prop where
  out : ∀ u, u ∉ xs → N' u = N u
  key : ∀ u, (N' u).key = (N u).key
  hang : ∀ u, (N' u).hang = (N u).hang
theorem Out.refl (N : NN) (xs : List Nat) : Out N N xs := ⟨fun _ _ => rfl, fun _ => rfl, fun _ => rfl⟩
theorem Out.trans {N N' N'' : NN} {xs : List Nat} (a : Out N N' xs) (b : Out N' N'' xs) : Out N N'' xs :=
  ⟨fun u hu => (b.out u hu).trans (a.out u hu), fun u => (b.key u).trans (a.key u), fun u => (b.hang u).trans (a.hang u)⟩

section
variable {h : Hp} {a b n : Nat} {N : NN} {tr : Int}

/-- A rotation within a tree. -/
theorem rotate_TT (d : FS h a b n N tr) {l r s : Tr} {v p : Nat} {e : Bool} {c : Cx} {pp : Int} (t : TT n N (plug (.nd l v r) ((e, p, s) :: c)) pp) (hv : (N v).rev = false) (hc : ∀ f, f ∈ (e, p, s) :: c → (N f.2.1).rev = false) (K : Hp → Prop)
    (hK : ∀ h' N', FS h' a b n N' tr → FrB a b h h' → h'.size = h.size → TT n N' (plug (rotT e l v r p s) c) pp → Out N N' (plug (.nd l v r) ((e, p, s) :: c)).seq → (∀ u, (N' u).rev = (N u).rev) → K h') : g_lct_Forest_rotate (some ⟨a, 0, none⟩) (v : Int) h K := by
  have hn := d.hn
  have hlen := t.len
  have f := FZ.of hv hc t.rs t.ag
  obtain ⟨r1, r2, r3, r4⟩ := rot_FZ f t.nd (by omega)
  have hp0 : (N p).rev = false := hc (e, p, s) (List.mem_cons_self ..)
  obtain ⟨z1, z2, z3, z4, z5⟩ := f.z
  have pm := seqc_perm (Tr.nd l v r).seq ((e, p, s) :: c)
  have nd2 := pm.nodup_iff.1 (by rw [← seq_plug]; exact t.nd)
  have ecn : cnodes ((e, p, s) :: c) = p :: (s.seq ++ cnodes c) := by simp [cnodes]
  rw [ecn, List.nodup_append] at nd2
  obtain ⟨nA, nB, nAB⟩ := nd2
  have mT : ∀ u, u ∈ (Tr.nd l v r).seq ∨ u = p ∨ u ∈ s.seq ∨ u ∈ cnodes c → u ∈ (plug (.nd l v r) ((e, p, s) :: c)).seq := fun u hu => by
    rw [mem_plug, ecn]
    simp only [List.mem_cons, List.mem_append]; exact hu
  have hvm : v ∈ (Tr.nd l v r).seq := by simp [Tr.seq]
  have hvn := t.lt v (mT v (.inl hvm))
  have hpn := t.lt p (mT p (.inr (.inl rfl)))
  have hvp : v ≠ p := fun q => nAB v hvm p (by simp) q
  have sne : ∀ {x : Tr} {y : Nat}, y ∉ x.seq → x.rt ≠ (y : Int) := fun {x y} hy q => hy (Tr.rt_mem q)
  have hs : e = true ↔ (N p).k1 = v := by
    cases e
    · simp only [Bool.false_eq_true, if_false] at z3
      refine ⟨fun q => (by cases q), fun q => ?_⟩
      rw [z3.2] at q
      exact absurd q (sne fun hh => nAB v hvm v (by simp [hh]) rfl)
    · simp only [if_true] at z3
      exact ⟨fun _ => z3.2, fun _ => rfl⟩
  have gg : GG n N v p (gOf c) := by
    have tp : topP N p ↔ c = [] := by
      cases e
      · exact t.top (l := .nd l v r) (r := s) (c := c) rfl
      · exact t.top (l := s) (r := .nd l v r) (c := c) rfl
    have iu : inI n (N p).up := by
      cases e
      · exact t.inU (l := .nd l v r) (r := s) (c := c) rfl
      · exact t.inU (l := s) (r := .nd l v r) (c := c) rfl
    cases c with
    | nil => exact ⟨tp.2 rfl, iu⟩
    | cons x c =>
      obtain ⟨e', g, x'⟩ := x
      obtain ⟨y1, y2, y3, y4, y5⟩ := z5
      have hg : g ∈ cnodes ((e', g, x') :: c) := by simp [cnodes]
      have hpc : p ∉ s.seq ++ cnodes ((e', g, x') :: c) := (List.nodup_cons.1 nB).1
      refine ⟨z1, t.lt g (mT g (.inr (.inr (.inr hg)))), fun q => (by cases tp.1 q), ?_, fun q => nAB v hvm g (by simp [hg]) q.symm, fun q => hpc (by rw [← q]; simp [hg])⟩
      cases e'
      · simp only [Bool.false_eq_true, if_false] at y3
        refine ⟨fun q => (by cases q), fun q => ?_⟩
        rw [y3.2] at q
        exact absurd q (sne fun hh => hpc (by simp [cnodes, hh]))
      · simp only [if_true] at y3
        exact ⟨fun _ => y3.2, fun _ => rfl⟩
  obtain ⟨m, hm⟩ : ∃ m : Tr, m = if e = true then l else r := ⟨_, rfl⟩
  have km : rotK N v e = m.rt := by
    unfold rotK; rw [hm]
    cases e
    · simp [f.k1]
    · simp [f.k0]
  have nA' := nA
  simp only [Tr.seq] at nA'
  rw [List.nodup_append, List.nodup_cons] at nA'
  have mmem : ∀ u, u ∈ m.seq → u ∈ (Tr.nd l v r).seq ∧ u ≠ v := fun u hu => by
    subst hm
    cases e
    · simp only [Bool.false_eq_true, if_false] at hu; exact ⟨by simp [Tr.seq, hu], fun q => nA'.2.1.1 (q ▸ hu)⟩
    · simp only [if_true] at hu; exact ⟨by simp [Tr.seq, hu], fun q => nA'.2.2 u hu v (by simp) q⟩
  have hk : inI n (rotK N v e) := by
    rw [km]
    cases m with
    | nil => exact .inl rfl
    | nd a k b => exact .inr ⟨k, rfl, t.lt k (mT k (.inl (mmem k (by simp [Tr.seq])).1))⟩
  have hkv : rotK N v e ≠ v := by rw [km]; exact fun q => (mmem v (Tr.rt_mem q)).2 rfl
  have hkp : rotK N v e ≠ p := by rw [km]; exact fun q => nAB p (mmem p (Tr.rt_mem q)).1 p (by simp) rfl
  have hpo : PO n (rot6 N v p e (gOf c)) p ∧ PO n (pullN (rot6 N v p e (gOf c)) p) v := by
    cases e
    · exact (r2 rfl).2 n t.lt
    · exact (r1 rfl).2 n t.lt
  refine rotate_spec d hvn hpn hvp f.up e hs (gOf c) gg hk hkv hkp hpo.1 hpo.2 K fun h' d' f' z' => hK h' _ d' f' z' ?_ ?_ fun u => (r4 u).2.2
  · have hz : RS (rotN N v p e (gOf c)) false (plug (rotT e l v r p s) c) pp ∧ AG (rotN N v p e (gOf c)) (plug (rotT e l v r p s) c) := by
      cases e
      · exact (r2 rfl).1.plug
      · exact (r1 rfl).1.plug
    have es : (plug (rotT e l v r p s) c).seq = (plug (.nd l v r) ((e, p, s) :: c)).seq := by
      rw [seq_plug, seq_plug, rotT_seq]; rfl
    refine ⟨hz.1, hz.2, by rw [es]; exact t.nd, by rw [es]; exact t.lt, ?_⟩
    rcases t.pp with h | ⟨x, hx, hxn, hxT, hxk⟩
    · exact .inl h
    · refine .inr ⟨x, hx, hxn, by rw [es]; exact hxT, ?_⟩
      rw [es, r3 x (fun q => hxT (mT x (.inl q))) fun q => hxT ((mem_plug _ _ _).2 (.inr q))]
      exact hxk
  · exact ⟨fun u hu => r3 u (fun q => hu (mT u (.inl q))) fun q => hu ((mem_plug _ _ _).2 (.inr q)), fun u => (r4 u).1, fun u => (r4 u).2.1⟩
end

end Go.Hx
