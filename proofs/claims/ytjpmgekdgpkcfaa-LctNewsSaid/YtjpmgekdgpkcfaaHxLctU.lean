/- Splay trees: what nodes say about all below them; a node within its tree; rotations. Plain; no program. No condition. -/
import Derived.Test.YtjpmgekdgpkcfaaHxLctT
namespace Go.Hx
set_option linter.unusedSimpArgs false
set_option linter.unusedVariables false

/-! ### What nodes say about all below them -/

theorem w64_l (a b : Int) : w64 (w64 a + b) = w64 (a + b) := by
  simp only [w64, IntKind.wrap_i64]; omega
theorem w64_r (a b : Int) : w64 (a + w64 b) = w64 (a + b) := by
  simp only [w64, IntKind.wrap_i64]; omega

/-- A vertex is before another one. -/
def bef (N : NN) (a b : Nat) : Prop := (N a).key < (N b).key ∨ (N a).key = (N b).key ∧ a < b
theorem bef_irr {N : NN} {a : Nat} : ¬ bef N a a := by unfold bef; omega
theorem bef_tri {N : NN} {a b c : Nat} (h : ¬ bef N a b) (g : ¬ bef N b c) : ¬ bef N a c := by unfold bef at *; omega
theorem bef_asy {N : NN} {a b : Nat} (h : bef N a b) : ¬ bef N b a := by unfold bef at *; omega

def sumH (N : NN) (xs : List Nat) : Int := xs.foldr (fun x s => 1 + (N x).hang + s) 0
theorem sumH_app (N : NN) (xs ys : List Nat) : sumH N (xs ++ ys) = sumH N xs + sumH N ys := by
  induction xs with
  | nil => simp [sumH]
  | cons x xs ih => simp only [sumH, List.cons_append, List.foldr_cons] at *; omega
theorem sumH_perm {N : NN} {xs ys : List Nat} (h : xs.Perm ys) : sumH N xs = sumH N ys := by
  induction h with
  | nil => rfl
  | cons x _ ih => simp only [sumH, List.foldr_cons] at *; omega
  | swap x y l => simp only [sumH, List.foldr_cons]; omega
  | trans _ _ h1 h2 => exact h1.trans h2
theorem sumH_congr {N N' : NN} {xs : List Nat} (h : ∀ x, x ∈ xs → (N' x).hang = (N x).hang) : sumH N' xs = sumH N xs := by
  induction xs with
  | nil => rfl
  | cons x xs ih =>
    have := ih fun y hy => h y (List.mem_cons_of_mem _ hy)
    have := h x (List.mem_cons_self ..)
    simp only [sumH, List.foldr_cons] at *; omega

/-- The first one, how many, and the sum, of a list. -/
def De (N : NN) (s : Int × Int × Int) (xs : List Nat) : Prop := (∃ m : Nat, m ∈ xs ∧ s.1 = m ∧ ∀ u, u ∈ xs → ¬ bef N u m) ∧ s.2.1 = (xs.length : Nat) ∧ s.2.2 = w64 (sumH N xs)

theorem De.perm {N : NN} {s : Int × Int × Int} {xs ys : List Nat} (h : De N s xs) (p : xs.Perm ys) : De N s ys := by
  obtain ⟨⟨m, h1, h2, h3⟩, h4, h5⟩ := h
  exact ⟨⟨m, p.mem_iff.1 h1, h2, fun u hu => h3 u (p.mem_iff.2 hu)⟩, by rw [h4, p.length_eq], by rw [h5, sumH_perm p]⟩

theorem De.congr {N N' : NN} {s : Int × Int × Int} {xs : List Nat} (h : De N s xs) (e : ∀ u, u ∈ xs → (N' u).key = (N u).key ∧ (N' u).hang = (N u).hang) : De N' s xs := by
  obtain ⟨⟨m, h1, h2, h3⟩, h4, h5⟩ := h
  refine ⟨⟨m, h1, h2, fun u hu => ?_⟩, h4, by rw [h5, sumH_congr fun x hx => (e x hx).2]⟩
  unfold bef
  rw [(e u hu).1, (e m h1).1]
  exact h3 u hu

def agg (N : NN) (v : Nat) (xs : List Nat) : Prop := De N ((N v).best, (N v).size, (N v).all) xs

def AG (N : NN) : Tr → Prop
  | .nil => True
  | .nd l v r => agg N v (Tr.nd l v r).seq ∧ AG N l ∧ AG N r

/-- What two nodes say is the same. -/
def sag (N N' : NN) (u : Nat) : Prop := (N' u).key = (N u).key ∧ (N' u).best = (N u).best ∧ (N' u).size = (N u).size ∧ (N' u).hang = (N u).hang ∧ (N' u).all = (N u).all

theorem agg.congr {N N' : NN} {v : Nat} {xs : List Nat} (h : agg N v xs) (hv : sag N N' v) (e : ∀ u, u ∈ xs → sag N N' u) : agg N' v xs := by
  obtain ⟨_, e2, e3, _, e5⟩ := hv
  unfold agg
  rw [e2, e3, e5]
  exact De.congr h fun u hu => ⟨(e u hu).1, (e u hu).2.2.2.1⟩

theorem AG.congr {N N' : NN} {t : Tr} (h : AG N t) (e : ∀ u, u ∈ t.seq → sag N N' u) : AG N' t := by
  induction t with
  | nil => trivial
  | nd l v r il ir =>
    obtain ⟨h1, h2, h3⟩ := h
    exact ⟨h1.congr (e v (by simp [Tr.seq])) e, il h2 fun u hu => e u (by simp [Tr.seq, hu]), ir h3 fun u hu => e u (by simp [Tr.seq, hu])⟩

theorem AG.mir {N : NN} {t : Tr} (h : AG N t) : AG N t.mir := by
  induction t with
  | nil => trivial
  | nd l v r il ir =>
    obtain ⟨h1, h2, h3⟩ := h
    refine ⟨?_, ir h3, il h2⟩
    have : (Tr.nd r.mir v l.mir).seq = (Tr.nd l v r).seq.reverse := Tr.seq_mir (Tr.nd l v r)
    unfold agg
    rw [this]
    exact h1.perm (List.reverse_perm _).symm

theorem push_sag (N : NN) (v u : Nat) : sag N (pushN N v) u := by
  unfold pushN sag
  by_cases h1 : (N v).rev = true
  · by_cases h2 : u = v
    · subst h2; simp [h1]
    · by_cases h3 : (u : Int) = (N v).k0 ∨ (u : Int) = (N v).k1
      · simp [h1, h2, h3]
      · simp [h1, h2, h3]
  · simp [h1]

instance (N : NN) (a b : Nat) : Decidable (bef N a b) := by unfold bef; exact inferInstance

/-- One child more. -/
def pl (N : NN) (s : Int × Int × Int) (k : Int) : Int × Int × Int :=
  if k = -1 then s else (if bef N (N k.toNat).best.toNat s.1.toNat then (N k.toNat).best else s.1, w64 (s.2.1 + (N k.toNat).size), w64 (s.2.2 + (N k.toNat).all))

theorem pl_De {N : NN} {s : Int × Int × Int} {xs : List Nat} {t : Tr} (h : De N s xs) (g : AG N t) (hl : (xs ++ t.seq).length < 2 ^ 62) : De N (pl N s t.rt) (xs ++ t.seq) := by
  cases t with
  | nil => simpa [pl, Tr.rt, Tr.seq] using h
  | nd l v r =>
    obtain ⟨⟨m, m1, m2, m3⟩, h4, h5⟩ := h
    obtain ⟨⟨⟨k, k1, k2, k3⟩, g4, g5⟩, _, _⟩ := g
    simp only at k2 g4 g5
    unfold pl
    rw [if_neg (by simp only [Tr.rt]; omega)]
    simp only [Tr.rt, Int.toNat_natCast, k2, m2, g4, g5, h4, h5]
    refine ⟨?_, ?_, ?_⟩
    · by_cases hb : bef N k m
      · rw [if_pos hb]
        refine ⟨k, List.mem_append_right _ k1, rfl, fun u hu => ?_⟩
        rcases List.mem_append.1 hu with hu | hu
        · exact bef_tri (m3 u hu) (bef_asy hb)
        · exact k3 u hu
      · rw [if_neg hb]
        refine ⟨m, List.mem_append_left _ m1, rfl, fun u hu => ?_⟩
        rcases List.mem_append.1 hu with hu | hu
        · exact m3 u hu
        · exact bef_tri (k3 u hu) hb
    · simp only
      rw [List.length_append] at hl ⊢
      rw [w64, w64_eq (by omega) (by omega)]; omega
    · simp only
      rw [w64_l, w64_r, sumH_app]

/-- What a node says is found out again. -/
def pullN (N : NN) (v : Nat) : NN := fun u => if u = v then
    let s := pl N (pl N ((v : Int), 1, w64 (1 + (N v).hang)) (N v).k0) (N v).k1
    { N v with best := s.1, size := s.2.1, all := s.2.2 } else N u

theorem pullN_sam (N : NN) (v u : Nat) : sam N (pullN N v) u := by
  unfold pullN sam
  by_cases h : u = v
  · subst h; simp
  · simp [h]
theorem pullN_out {N : NN} {v u : Nat} (h : u ≠ v) : pullN N v u = N u := by unfold pullN; rw [if_neg h]
theorem pullN_kh (N : NN) (v u : Nat) : (pullN N v u).key = (N u).key ∧ (pullN N v u).hang = (N u).hang := by
  unfold pullN
  by_cases h : u = v
  · subst h; simp
  · simp [h]

theorem pull_agg {N : NN} {v : Nat} {l r : Tr} (h0 : (N v).k0 = l.rt) (h1 : (N v).k1 = r.rt) (gl : AG N l) (gr : AG N r) (hl : (l.seq ++ v :: r.seq).length < 2 ^ 62) : agg (pullN N v) v (l.seq ++ v :: r.seq) := by
  have d0 : De N ((v : Int), 1, w64 (1 + (N v).hang)) [v] := ⟨⟨v, by simp, rfl, fun u hu => by simp at hu; subst hu; exact bef_irr⟩, rfl, by simp [sumH]⟩
  have hl' : l.seq.length + (r.seq.length + 1) < 2 ^ 62 := by simpa using hl
  have d1 := pl_De d0 gl (by simp; omega)
  have d2 := pl_De d1 gr (by simp; omega)
  rw [← h0, ← h1] at d2
  have d3 := d2.perm (show ([v] ++ l.seq ++ r.seq).Perm (l.seq ++ v :: r.seq) by
    rw [List.append_assoc, List.singleton_append]; exact List.perm_middle.symm)
  have : agg (pullN N v) v (l.seq ++ v :: r.seq) ↔ De (pullN N v) (pl N (pl N ((v : Int), 1, w64 (1 + (N v).hang)) (N v).k0) (N v).k1) (l.seq ++ v :: r.seq) := by
    unfold agg
    have e : pullN N v v = { N v with best := (pl N (pl N ((v : Int), 1, w64 (1 + (N v).hang)) (N v).k0) (N v).k1).1, size := (pl N (pl N ((v : Int), 1, w64 (1 + (N v).hang)) (N v).k0) (N v).k1).2.1, all := (pl N (pl N ((v : Int), 1, w64 (1 + (N v).hang)) (N v).k0) (N v).k1).2.2 } := by
      unfold pullN; rw [if_pos rfl]
    rw [e]
  rw [this]
  exact d3.congr fun u _ => pullN_kh N v u

/-- The children of a node, to be pulled from. -/
def PO (n : Nat) (N : NN) (v : Nat) : Prop := ∀ x, x = (N v).k0 ∨ x = (N v).k1 → x = -1 ∨ ∃ k : Nat, x = k ∧ k < n ∧ k ≠ v ∧ ∃ m : Nat, (N k).best = m ∧ m < n

theorem PO.of {n : Nat} {N : NN} {v : Nat} {l r : Tr} (h0 : (N v).k0 = l.rt) (h1 : (N v).k1 = r.rt) (gl : AG N l) (gr : AG N r) (hn : ∀ u, u ∈ l.seq ∨ u ∈ r.seq → u < n) (hv : v ∉ l.seq ∧ v ∉ r.seq) : PO n N v := by
  have one : ∀ t : Tr, AG N t → (∀ u, u ∈ t.seq → u < n) → v ∉ t.seq → t.rt = -1 ∨ ∃ k : Nat, t.rt = k ∧ k < n ∧ k ≠ v ∧ ∃ m : Nat, (N k).best = m ∧ m < n := fun t g hn hv => by
    cases t with
    | nil => exact .inl rfl
    | nd a k b =>
      obtain ⟨⟨⟨m, m1, m2, _⟩, _⟩, _⟩ := g
      have hk : k ∈ (Tr.nd a k b).seq := by simp [Tr.seq]
      exact .inr ⟨k, rfl, hn k hk, fun e => hv (e ▸ hk), m, m2, hn m m1⟩
  rintro x (rfl | rfl)
  · rw [h0]; exact one l gl (fun u hu => hn u (.inl hu)) hv.1
  · rw [h1]; exact one r gr (fun u hu => hn u (.inr hu)) hv.2

/-! ### A node within its tree -/

abbrev Cx := List (Bool × Nat × Tr)
def upc : Cx → Int → Int
  | [], pp => pp
  | (_, p, _) :: _, _ => (p : Int)
def plug : Tr → Cx → Tr
  | t, [] => t
  | t, (d, p, s) :: c => plug (if d = true then .nd s p t else .nd t p s) c
def cnodes (c : Cx) : List Nat := c.flatMap fun f => f.2.1 :: f.2.2.seq

/-- What is above a node whose tree is pushed down to it. -/
def ZC (N : NN) : Int → Cx → Int → Prop
  | _, [], _ => True
  | x, (d, p, s) :: c, pp => (N p).up = upc c pp ∧ (N p).rev = false ∧ (if d = true then (N p).k0 = s.rt ∧ (N p).k1 = x else (N p).k0 = x ∧ (N p).k1 = s.rt) ∧ RS N false s p ∧ ZC N p c pp

theorem ZC_plug {N : NN} {c : Cx} {pp : Int} (hc : ∀ f, f ∈ c → (N f.2.1).rev = false) {t : Tr} (h : RS N false (plug t c) pp) : RS N false t (upc c pp) ∧ ZC N t.rt c pp := by
  induction c generalizing t with
  | nil => exact ⟨h, trivial⟩
  | cons f c ih =>
    obtain ⟨d, p, s⟩ := f
    have hr : (N p).rev = false := hc (d, p, s) (List.mem_cons_self ..)
    obtain ⟨h1, h2⟩ := ih (fun g hg => hc g (List.mem_cons_of_mem _ hg)) h
    cases d with
    | true =>
      simp only [if_true] at h1 h2
      obtain ⟨a1, a2, a3, a4⟩ := h1
      simp only [hr, Bool.xor_false, Bool.false_eq_true, if_false] at a2 a3 a4
      exact ⟨a4, a1, hr, by simpa using a2, a3, h2⟩
    | false =>
      simp only [Bool.false_eq_true, if_false] at h1 h2
      obtain ⟨a1, a2, a3, a4⟩ := h1
      simp only [hr, Bool.xor_false, Bool.false_eq_true, if_false] at a2 a3 a4
      exact ⟨a3, a1, hr, by simpa using a2, a4, h2⟩

theorem plug_RS {N : NN} {c : Cx} {pp : Int} {t : Tr} (h : RS N false t (upc c pp)) (z : ZC N t.rt c pp) : RS N false (plug t c) pp := by
  induction c generalizing t with
  | nil => exact h
  | cons f c ih =>
    obtain ⟨d, p, s⟩ := f
    obtain ⟨a1, hr, a2, a3, z⟩ := z
    cases d with
    | true =>
      refine ih (t := .nd s p t) ⟨a1, ?_, ?_, ?_⟩ z
      all_goals simp only [hr, Bool.xor_false, Bool.false_eq_true, if_false]
      · simpa using a2
      · exact a3
      · exact h
    | false =>
      refine ih (t := .nd t p s) ⟨a1, ?_, ?_, ?_⟩ z
      all_goals simp only [hr, Bool.xor_false, Bool.false_eq_true, if_false]
      · simpa using a2
      · exact h
      · exact a3

theorem ZC.congr {N N' : NN} {x : Int} {c : Cx} {pp : Int} (h : ZC N x c pp) (e : ∀ u, u ∈ cnodes c → sam N N' u) : ZC N' x c pp := by
  induction c generalizing x with
  | nil => trivial
  | cons f c ih =>
    obtain ⟨d, p, s⟩ := f
    obtain ⟨h1, h2, h3, h4, h5⟩ := h
    obtain ⟨e1, e2, e3, e4⟩ := e p (by simp [cnodes])
    exact ⟨by rw [e1, h1], by rw [e4, h2], by rw [e2, e3]; exact h3, h4.congr fun u hu => e u (by simp [cnodes]; exact .inr (.inl hu)), ih h5 fun u hu => e u (by simp only [cnodes, List.flatMap_cons, List.mem_append]; exact .inr hu)⟩

/-- The list of a subtree as seen from above. -/
def up1 (d : Bool) (p : Nat) (s : Tr) (xs : List Nat) : List Nat := if d = true then s.seq ++ p :: xs else xs ++ p :: s.seq
def seqc : List Nat → Cx → List Nat
  | xs, [] => xs
  | xs, (d, p, s) :: c => seqc (up1 d p s xs) c
theorem seq_plug (t : Tr) (c : Cx) : (plug t c).seq = seqc t.seq c := by
  induction c generalizing t with
  | nil => rfl
  | cons f c ih =>
    obtain ⟨d, p, s⟩ := f
    show (plug _ c).seq = seqc _ c
    rw [ih]
    cases d <;> rfl

def AGC (N : NN) : List Nat → Cx → Prop
  | _, [] => True
  | xs, (d, p, s) :: c => agg N p (up1 d p s xs) ∧ AG N s ∧ AGC N (up1 d p s xs) c

theorem AG_plug {N : NN} {t : Tr} {c : Cx} : AG N (plug t c) ↔ AG N t ∧ AGC N t.seq c := by
  induction c generalizing t with
  | nil => exact ⟨fun h => ⟨h, trivial⟩, fun h => h.1⟩
  | cons f c ih =>
    obtain ⟨d, p, s⟩ := f
    show AG N (plug _ c) ↔ _
    rw [ih]
    cases d with
    | true =>
      simp only [if_true, AGC, up1]
      constructor
      · rintro ⟨⟨a, b, d⟩, e⟩; exact ⟨d, a, b, e⟩
      · rintro ⟨d, a, b, e⟩; exact ⟨⟨a, b, d⟩, e⟩
    | false =>
      simp only [Bool.false_eq_true, if_false, AGC, up1]
      constructor
      · rintro ⟨⟨a, b, d⟩, e⟩; exact ⟨b, a, d, e⟩
      · rintro ⟨b, a, d, e⟩; exact ⟨⟨a, b, d⟩, e⟩

theorem seqc_perm (xs : List Nat) (c : Cx) : (seqc xs c).Perm (xs ++ cnodes c) := by
  induction c generalizing xs with
  | nil => simp [seqc, cnodes]
  | cons f c ih =>
    obtain ⟨d, p, s⟩ := f
    refine (ih (up1 d p s xs)).trans ?_
    have : (up1 d p s xs).Perm (xs ++ (p :: s.seq)) := by
      cases d with
      | true =>
        simp only [up1, if_true]
        refine List.perm_append_comm.trans ?_
        exact List.perm_middle.symm
      | false => simp only [up1, Bool.false_eq_true, if_false]; exact List.Perm.refl _
    refine (this.append_right _).trans ?_
    simp [cnodes]

theorem AGC.congr {N N' : NN} {xs : List Nat} {c : Cx} (h : AGC N xs c) (e : ∀ u, u ∈ cnodes c → sag N N' u) (ex : ∀ u, u ∈ xs → (N' u).key = (N u).key ∧ (N' u).hang = (N u).hang) : AGC N' xs c := by
  induction c generalizing xs with
  | nil => trivial
  | cons f c ih =>
    obtain ⟨d, p, s⟩ := f
    obtain ⟨h1, h2, h3⟩ := h
    have es : ∀ u, u ∈ s.seq → sag N N' u := fun u hu => e u (by simp [cnodes]; exact .inr (.inl hu))
    have ep := e p (by simp [cnodes])
    have ek : ∀ u, u ∈ up1 d p s xs → (N' u).key = (N u).key ∧ (N' u).hang = (N u).hang := fun u hu => by
      cases d <;> simp only [up1, Bool.false_eq_true, if_false, if_true, List.mem_append, List.mem_cons] at hu
      · rcases hu with hu | rfl | hu
        · exact ex u hu
        · exact ⟨ep.1, ep.2.2.2.1⟩
        · exact ⟨(es u hu).1, (es u hu).2.2.2.1⟩
      · rcases hu with hu | rfl | hu
        · exact ⟨(es u hu).1, (es u hu).2.2.2.1⟩
        · exact ⟨ep.1, ep.2.2.2.1⟩
        · exact ex u hu
    refine ⟨?_, h2.congr es, ih h3 (fun u hu => e u (by simp only [cnodes, List.flatMap_cons, List.mem_append]; exact .inr hu)) ek⟩
    unfold agg
    obtain ⟨_, e2, e3, _, e5⟩ := ep
    rw [e2, e3, e5]
    exact De.congr h1 ek

end Go.Hx
