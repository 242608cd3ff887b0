/- Forests: simple ways, there is one of each pair that is connected. Plain; no program. No condition. -/
import Derived.Test.YtjpmgekdgpkcfaaHxLctQ
namespace Go.Hx
set_option linter.unusedSimpArgs false
set_option linter.unusedVariables false

/-- No vertex is among its own ancestors. -/
def Acy (pa : Nat → Int) : Prop := ∃ dep : Nat → Nat, ∀ x y : Nat, pa x = y → dep y < dep x

/-- A relation of edges without cycles. -/
def FO (E : Nat → Nat → Prop) : Prop := ∃ pa, Acy pa ∧ ∀ p q, Ed pa p q ↔ E p q
/-- The same, with a root. -/
def Rt (E : Nat → Nat → Prop) (u : Nat) : Prop := ∃ pa, Acy pa ∧ pa u = -1 ∧ ∀ p q, Ed pa p q ↔ E p q

def wk (E : Nat → Nat → Prop) : List Nat → Prop
  | [] => True
  | x :: r => (match r with | [] => True | y :: _ => E x y) ∧ wk E r

/-- A simple way. -/
structure SP (E : Nat → Nat → Prop) (u v : Nat) (p : List Nat) : Prop where
  hd : p.head? = some u
  ls : p.getLast? = some v
  wk : wk E p
  nd : p.Nodup

theorem wk_cons2 {E : Nat → Nat → Prop} {x y : Nat} {r : List Nat} : wk E (x :: y :: r) ↔ E x y ∧ wk E (y :: r) := Iff.rfl

theorem wk_app {E : Nat → Nat → Prop} {xs ys : List Nat} {x : Nat} : wk E (xs ++ x :: ys) ↔ wk E (xs ++ [x]) ∧ wk E (x :: ys) := by
  induction xs with
  | nil => simp [wk]
  | cons a xs ih =>
    cases xs with
    | nil => simp only [List.cons_append, List.nil_append, wk_cons2]; simp [wk]
    | cons b xs =>
      simp only [List.cons_append, wk_cons2] at ih ⊢
      rw [ih, and_assoc]

theorem wk_rev {E : Nat → Nat → Prop} (sy : ∀ p q, E p q → E q p) {p : List Nat} (h : wk E p) : wk E p.reverse := by
  induction p with
  | nil => trivial
  | cons x r ih =>
    cases r with
    | nil => simp [wk]
    | cons y r =>
      rw [wk_cons2] at h
      have := ih h.2
      simp only [List.reverse_cons, List.append_assoc, List.singleton_append] at this ⊢
      rw [show r.reverse ++ [y, x] = r.reverse ++ y :: [x] from rfl, wk_app]
      exact ⟨this, sy _ _ h.1, trivial, trivial⟩

theorem wk_mono {E E' : Nat → Nat → Prop} (h : ∀ p q, E p q → E' p q) {p : List Nat} (w : wk E p) : wk E' p := by
  induction p with
  | nil => trivial
  | cons x r ih =>
    cases r with
    | nil => simp [wk]
    | cons y r => rw [wk_cons2] at w ⊢; exact ⟨h _ _ w.1, ih w.2⟩

theorem SP.congr {E E' : Nat → Nat → Prop} (h : ∀ p q, E p q ↔ E' p q) {u v : Nat} {p : List Nat} (s : SP E u v p) : SP E' u v p := ⟨s.hd, s.ls, wk_mono (fun _ _ => (h _ _).1) s.wk, s.nd⟩

theorem SP.rev {E : Nat → Nat → Prop} (sy : ∀ p q, E p q → E q p) {u v : Nat} {p : List Nat} (s : SP E u v p) : SP E v u p.reverse :=
  ⟨by rw [List.head?_reverse, s.ls], by rw [List.getLast?_reverse, s.hd], wk_rev sy s.wk, (List.reverse_perm p).nodup_iff.2 s.nd⟩

theorem SP.one (E : Nat → Nat → Prop) (u : Nat) : SP E u u [u] := ⟨rfl, rfl, ⟨trivial, trivial⟩, by simp⟩

theorem SP.ne {E : Nat → Nat → Prop} {u v : Nat} {p : List Nat} (s : SP E u v p) : p ≠ [] := fun e => by have := s.hd; rw [e] at this; cases this
theorem SP.memu {E : Nat → Nat → Prop} {u v : Nat} {p : List Nat} (s : SP E u v p) : u ∈ p := List.mem_of_head? s.hd
theorem SP.memv {E : Nat → Nat → Prop} {u v : Nat} {p : List Nat} (s : SP E u v p) : v ∈ p := List.mem_of_getLast? s.ls

theorem wk_Cn {E : Nat → Nat → Prop} {x : Nat} {r : List Nat} (w : wk E (x :: r)) {z : Nat} (hz : z ∈ x :: r) : Cn E x z := by
  induction r generalizing x with
  | nil => simp at hz; subst hz; exact .refl _
  | cons y r ih =>
    rw [wk_cons2] at w
    rcases List.mem_cons.1 hz with rfl | hz
    · exact .refl _
    · exact (Cn.one w.1).trans (ih w.2 hz)

theorem SP.cn {E : Nat → Nat → Prop} {u v : Nat} {p : List Nat} (s : SP E u v p) {z : Nat} (hz : z ∈ p) : Cn E u z := by
  cases p with
  | nil => cases hz
  | cons x r =>
    have := s.hd
    simp only [List.head?_cons, Option.some.injEq] at this
    subst this
    exact wk_Cn s.wk hz
theorem SP.Cn {E : Nat → Nat → Prop} {u v : Nat} {p : List Nat} (s : SP E u v p) : Go.Hx.Cn E u v := s.cn s.memv

/-! ### Ways from a root -/

theorem wk_chn {pa : Nat → Int} {x : Nat} {r : List Nat} (w : wk (Ed pa) (x :: r)) (nd : (x :: r).Nodup) (hx : ∀ y, y ∈ r → pa x ≠ (y : Int)) : chn pa x r := by
  induction r generalizing x with
  | nil => trivial
  | cons y r ih =>
    rw [wk_cons2] at w
    have e : pa y = (x : Int) := by
      rcases w.1 with h | h
      · exact absurd h (hx y (by simp))
      · exact h
    rw [List.nodup_cons] at nd
    refine ⟨e, ih w.2 nd.2 fun z hz q => ?_⟩
    rw [e] at q
    have : x = z := Int.ofNat.inj q
    subst this
    exact nd.1 (by simp [hz])

theorem SP.chn {pa : Nat → Int} {u v : Nat} {p : List Nat} (s : SP (Ed pa) u v p) (hu : pa u = -1) : Go.Hx.chn pa (-1) p := by
  cases p with
  | nil => trivial
  | cons x r =>
    have := s.hd
    simp only [List.head?_cons, Option.some.injEq] at this
    subst this
    exact ⟨hu, wk_chn s.wk s.nd fun y _ q => by omega⟩

theorem chn_wk {pa : Nat → Int} {x : Nat} {r : List Nat} (c : chn pa x r) : wk (Ed pa) (x :: r) := by
  induction r generalizing x with
  | nil => exact ⟨trivial, trivial⟩
  | cons y r ih => rw [wk_cons2]; exact ⟨.inr c.1, ih c.2⟩

theorem chn_nodup {pa : Nat → Int} (ac : Acy pa) {p : Int} {xs : List Nat} (c : chn pa p xs) : xs.Nodup := by
  obtain ⟨dep, hd⟩ := ac
  induction xs generalizing p with
  | nil => simp
  | cons x xs ih =>
    rw [List.nodup_cons]
    exact ⟨fun h => Nat.lt_irrefl _ (LF.chn_dep c.2 hd rfl h), ih c.2⟩

theorem chn_SP {pa : Nat → Int} (ac : Acy pa) {p : Int} {x v : Nat} {xs : List Nat} (c : chn pa p (x :: xs)) (hl : (x :: xs).getLast? = some v) : SP (Ed pa) x v (x :: xs) := ⟨rfl, hl, chn_wk c.2, chn_nodup ac c⟩

/-- From below to the root. -/
def upr (pa : Nat → Int) : List Nat → Prop
  | [] => True
  | x :: r => (match r with | [] => pa x = -1 | y :: _ => pa x = (y : Int)) ∧ upr pa r

theorem upr_chn {pa : Nat → Int} {xs : List Nat} : upr pa xs ↔ chn pa (-1) xs.reverse := by
  induction xs with
  | nil => exact ⟨fun _ => trivial, fun _ => trivial⟩
  | cons x r ih =>
    cases r with
    | nil => simp [upr, chn]
    | cons y r =>
      show pa x = (y : Int) ∧ upr pa (y :: r) ↔ _
      rw [ih, show (x :: y :: r).reverse = r.reverse ++ y :: [x] by simp, chn_app, show (y :: r).reverse = r.reverse ++ [y] by simp]
      simp only [chn, and_true]
      exact And.comm

theorem upr_uniq {pa : Nat → Int} {xs ys : List Nat} (h1 : upr pa xs) (h2 : upr pa ys) (h : xs.head? = ys.head?) : xs = ys := by
  induction xs generalizing ys with
  | nil => cases ys with
    | nil => rfl
    | cons y ys => cases h
  | cons x xs ih => cases ys with
    | nil => cases h
    | cons y ys =>
      simp only [List.head?_cons, Option.some.injEq] at h
      subst h
      congr 1
      refine ih h1.2 h2.2 ?_
      cases xs with
      | nil => cases ys with
        | nil => rfl
        | cons z zs => have a := h1.1; have b := h2.1; simp only at a b; omega
      | cons w ws => cases ys with
        | nil => have a := h1.1; have b := h2.1; simp only at a b; omega
        | cons z zs =>
          have a := h1.1; have b := h2.1
          simp only at a b
          rw [a] at b
          simp only [List.head?_cons]
          exact congrArg some (Int.ofNat.inj b)

theorem chn_uniq {pa : Nat → Int} {xs ys : List Nat} (h1 : chn pa (-1) xs) (h2 : chn pa (-1) ys) (h : xs.getLast? = ys.getLast?) : xs = ys := by
  have := upr_uniq (pa := pa) (xs := xs.reverse) (ys := ys.reverse) (upr_chn.2 (by rwa [List.reverse_reverse])) (upr_chn.2 (by rwa [List.reverse_reverse])) (by rw [List.head?_reverse, List.head?_reverse, h])
  have := congrArg List.reverse this
  simpa using this

theorem Anc_chn {pa : Nat → Int} {v u : Nat} (h : Anc pa v u) (hu : pa u = -1) : ∃ p, upr pa p ∧ p.head? = some v ∧ p.getLast? = some u := by
  induction h with
  | refl => exact ⟨[_], ⟨hu, trivial⟩, rfl, rfl⟩
  | @up a b c e _ ih =>
    obtain ⟨p, h1, h2, h3⟩ := ih hu
    cases p with
    | nil => cases h2
    | cons x r =>
      simp only [List.head?_cons, Option.some.injEq] at h2
      subst h2
      exact ⟨a :: x :: r, ⟨e, h1⟩, rfl, by rw [List.getLast?_cons_cons, h3]⟩

theorem Rt.uniq {E : Nat → Nat → Prop} {u v : Nat} (d : Rt E u) {p q : List Nat} (hp : SP E u v p) (hq : SP E u v q) : p = q := by
  obtain ⟨pa, ac, pu, he⟩ := d
  have h1 := (hp.congr fun a b => (he a b).symm).chn pu
  have h2 := (hq.congr fun a b => (he a b).symm).chn pu
  exact chn_uniq h1 h2 (by rw [hp.ls, hq.ls])

theorem Rt.ex {E : Nat → Nat → Prop} {u v : Nat} (d : Rt E u) (c : Cn E u v) : ∃ p, SP E u v p := by
  obtain ⟨pa, ac, pu, he⟩ := d
  obtain ⟨p, h1, h2, h3⟩ := Anc_chn (Cn_Anc pu ((Cn_congr he u v).2 c)) pu
  have c1 : chn pa (-1) p.reverse := upr_chn.1 h1
  have hh : p.reverse.head? = some u := by rw [List.head?_reverse, h3]
  have hl : p.reverse.getLast? = some v := by rw [List.getLast?_reverse, h2]
  cases hq : p.reverse with
  | nil => rw [hq] at hh; cases hh
  | cons x r =>
    rw [hq] at c1 hh hl
    simp only [List.head?_cons, Option.some.injEq] at hh
    subst hh
    exact ⟨_, (chn_SP ac c1 hl).congr he⟩

/-- Any vertex may be the root. -/
theorem FO.rt {E : Nat → Nat → Prop} (d : FO E) (u : Nat) : Rt E u := by
  obtain ⟨pa0, ac0, he0⟩ := d
  obtain ⟨pa, hpa⟩ : ∃ pa : Nat → Int, pa = fun x => if 0 ≤ pa0 x then pa0 x else -1 := ⟨_, rfl⟩
  have e0 : ∀ x y : Nat, pa x = (y : Int) ↔ pa0 x = (y : Int) := fun x y => by
    rw [hpa]
    by_cases q : 0 ≤ pa0 x
    · simp only [if_pos q]
    · simp only [if_neg q]; omega
  have val : ∀ x, pa x = -1 ∨ ∃ y : Nat, pa x = y := fun x => by
    by_cases q : 0 ≤ pa0 x
    · right; exact ⟨(pa0 x).toNat, by rw [hpa]; simp only [if_pos q]; omega⟩
    · left; rw [hpa]; simp only [if_neg q]
  have ac : Acy pa := by
    obtain ⟨dep, hd⟩ := ac0
    exact ⟨dep, fun x y e => hd x y ((e0 x y).1 e)⟩
  have he : ∀ p q, Ed pa p q ↔ E p q := fun p q => by rw [← he0]; unfold Ed; rw [e0, e0]
  obtain ⟨xs, h1, h2⟩ : ∃ xs, upr pa xs ∧ xs.head? = some u := by
    obtain ⟨dep, hd⟩ := ac
    have : ∀ k u, dep u < k → ∃ xs, upr pa xs ∧ xs.head? = some u := by
      intro k
      induction k with
      | zero => intro u h; omega
      | succ k ih =>
        intro u hk
        rcases val u with e | ⟨y, e⟩
        · exact ⟨[u], ⟨e, trivial⟩, rfl⟩
        · obtain ⟨xs, h1, h2⟩ := ih y (by have := hd u y e; omega)
          cases xs with
          | nil => cases h2
          | cons x r =>
            simp only [List.head?_cons, Option.some.injEq] at h2
            subst h2
            exact ⟨u :: x :: r, ⟨e, h1⟩, rfl⟩
    exact this _ u (Nat.lt_succ_self _)
  have c := upr_chn.1 h1
  have nd : xs.Nodup := (List.reverse_perm xs).nodup_iff.1 (chn_nodup ac c)
  refine ⟨evp pa xs, evp_dep nd ac, ?_, fun p q => (evp_Ed nd c p q).trans (he p q)⟩
  cases xs with
  | nil => cases h2
  | cons x r =>
    simp only [List.head?_cons, Option.some.injEq] at h2
    subst h2
    unfold evp
    rw [if_pos (by simp)]
    simp [prd]

theorem FO.sym {E : Nat → Nat → Prop} (d : FO E) (p q : Nat) (h : E p q) : E q p := by
  obtain ⟨pa, _, he⟩ := d
  exact (he q p).1 ((he p q).2 h).symm

theorem FO.uniq {E : Nat → Nat → Prop} (d : FO E) {u v : Nat} {p q : List Nat} (hp : SP E u v p) (hq : SP E u v q) : p = q := (d.rt u).uniq hp hq
theorem FO.ex {E : Nat → Nat → Prop} (d : FO E) {u v : Nat} (c : Cn E u v) : ∃ p, SP E u v p := (d.rt u).ex c

theorem FO.congr {E E' : Nat → Nat → Prop} (d : FO E) (h : ∀ p q, E p q ↔ E' p q) : FO E' := by
  obtain ⟨pa, ac, he⟩ := d
  exact ⟨pa, ac, fun p q => (he p q).trans (h p q)⟩

theorem LF.fo {n : Nat} {N : NN} {pa : Nat → Int} {F : List (Tr × Int)} (d : LF n N pa F) : FO (Ed pa) := ⟨pa, d.dp, fun _ _ => Iff.rfl⟩

/-- A way over an edge only. -/
theorem SP.two {E : Nat → Nat → Prop} {u v : Nat} (e : E u v) (h : u ≠ v) : SP E u v [u, v] := ⟨rfl, rfl, ⟨e, trivial, trivial⟩, by simp [h]⟩

/-- Parts of a simple way. -/
theorem SP.cut {E : Nat → Nat → Prop} {u v z : Nat} {xs ys : List Nat} (s : SP E u v (xs ++ z :: ys)) : SP E u z (xs ++ [z]) ∧ SP E z v (z :: ys) := by
  obtain ⟨h1, h2, h3, h4⟩ := s
  rw [wk_app] at h3
  have h4' := h4
  rw [List.nodup_append] at h4'
  refine ⟨⟨?_, by simp, h3.1, ?_⟩, ⟨rfl, ?_, h3.2, h4'.2.1⟩⟩
  · cases xs with
    | nil => simpa using h1
    | cons x xs => simpa using h1
  · have : (xs ++ z :: ys) = (xs ++ [z]) ++ ys := by simp
    rw [this, List.nodup_append] at h4
    exact h4.1
  · rw [List.getLast?_append] at h2
    cases hq : (z :: ys).getLast? with
    | none => rw [List.getLast?_eq_none_iff] at hq; cases hq
    | some w => rw [hq] at h2; simpa using h2

/-- Where three ways meet. -/
def Mt3 (E : Nat → Nat → Prop) (a b c z : Nat) : Prop := ∃ p q r, SP E a b p ∧ SP E b c q ∧ SP E a c r ∧ z ∈ p ∧ z ∈ q ∧ z ∈ r

/-- Two ways that part in z: the third one. -/
theorem SP.join {E : Nat → Nat → Prop} (sy : ∀ p q, E p q → E q p) {a b c z : Nat} {xs ys zs : List Nat} (h1 : SP E a b (xs ++ z :: ys)) (h2 : SP E a c (xs ++ z :: zs)) (dj : ∀ q, q ∈ zs → q ∉ xs ++ z :: ys) : SP E b c (ys.reverse ++ z :: zs) := by
  obtain ⟨_, t1⟩ := h1.cut
  obtain ⟨_, t2⟩ := h2.cut
  have t1' := t1.rev sy
  simp only [List.reverse_cons] at t1'
  refine ⟨?_, ?_, ?_, ?_⟩
  · have := t1'.hd
    rw [List.head?_append] at this ⊢
    cases hq : ys.reverse.head? with
    | none => rw [hq] at this; simpa using this
    | some w => rw [hq] at this; simpa using this
  · have := t2.ls
    rw [List.getLast?_append, this]; rfl
  · rw [wk_app]; exact ⟨t1'.wk, t2.wk⟩
  · have n1 := t1'.nd
    have n2 := t2.nd
    rw [List.nodup_append] at n1 ⊢
    refine ⟨n1.1, n2, fun x hx y hy e => ?_⟩
    subst e
    rcases List.mem_cons.1 hy with q | hy
    · exact n1.2.2 x hx z (by simp) q
    · exact dj x hy (by simp at hx; simp [hx])

theorem Mt3.of {E : Nat → Nat → Prop} (sy : ∀ p q, E p q → E q p) {a b c z : Nat} {xs ys zs : List Nat} (h1 : SP E a b (xs ++ z :: ys)) (h2 : SP E a c (xs ++ z :: zs)) (dj : ∀ q, q ∈ zs → q ∉ xs ++ z :: ys) : Mt3 E a b c z :=
  ⟨_, _, _, h1, h1.join sy h2 dj, h2, by simp, by simp, by simp⟩

/-- The longest common beginning. -/
theorem split_com (p q : List Nat) (h : ∃ u, p.head? = some u ∧ q.head? = some u) : ∃ xs z ys zs, p = xs ++ z :: ys ∧ q = xs ++ z :: zs ∧ (∀ a b, ys.head? = some a → zs.head? = some b → a ≠ b) := by
  induction p generalizing q with
  | nil => obtain ⟨u, h, _⟩ := h; cases h
  | cons x p ih =>
    obtain ⟨u, h1, h2⟩ := h
    simp only [List.head?_cons, Option.some.injEq] at h1
    subst h1
    cases q with
    | nil => cases h2
    | cons y q =>
      simp only [List.head?_cons, Option.some.injEq] at h2
      subst h2
      by_cases g : ∃ w, p.head? = some w ∧ q.head? = some w
      · obtain ⟨xs, z, ys, zs, e1, e2, e3⟩ := ih q g
        exact ⟨y :: xs, z, ys, zs, by rw [e1]; rfl, by rw [e2]; rfl, e3⟩
      · exact ⟨[], y, p, q, rfl, rfl, fun a b ha hb e => g ⟨a, ha, by rw [hb, e]⟩⟩

/-- A vertex on all three ways is the one where they part. -/
theorem Mt3.at {E : Nat → Nat → Prop} (d : FO E) {a b c z w : Nat} {xs ys zs : List Nat} (h1 : SP E a b (xs ++ z :: ys)) (h2 : SP E a c (xs ++ z :: zs)) (dj : ∀ q, q ∈ zs → q ∉ xs ++ z :: ys) (m : Mt3 E a b c w) : w = z := by
  obtain ⟨p, q, r, s1, s2, s3, m1, m2, m3⟩ := m
  have e1 := d.uniq s1 h1
  have e2 := d.uniq s2 (h1.join d.sym h2 dj)
  have e3 := d.uniq s3 h2
  subst e1 e2 e3
  have nd1 := h1.nd
  rw [List.nodup_append, List.nodup_cons] at nd1
  have nd2 := h2.nd
  rw [List.nodup_append, List.nodup_cons] at nd2
  simp only [List.mem_append, List.mem_cons, List.mem_reverse] at m1 m2 m3
  rcases m2 with m2 | m2 | m2
  · -- among ys: then neither in xs nor z
    exfalso
    have a1 : w ∉ xs := fun h => nd1.2.2 w h w (by simp [m2]) rfl
    have a2 : w ≠ z := fun h => nd1.2.1.1 (h ▸ m2)
    rcases m3 with h | h | h
    · exact a1 h
    · exact a2 h
    · exact dj w h (by simp [m2])
  · exact m2
  · exfalso
    exact dj w m2 (by simp only [List.mem_append, List.mem_cons]; exact m1)

/-- From a root, ways part once. -/
theorem FO.part {E : Nat → Nat → Prop} (d : FO E) {a b c : Nat} {p q : List Nat} (hp : SP E a b p) (hq : SP E a c q) : ∃ xs z ys zs, p = xs ++ z :: ys ∧ q = xs ++ z :: zs ∧ ∀ w, w ∈ zs → w ∉ xs ++ z :: ys := by
  obtain ⟨xs, z, ys, zs, rfl, rfl, hne⟩ := split_com p q ⟨a, hp.hd, hq.hd⟩
  refine ⟨xs, z, ys, zs, rfl, rfl, fun w hw hm => ?_⟩
  have nd2 := hq.nd
  rw [List.nodup_append, List.nodup_cons] at nd2
  have w1 : w ∉ xs := fun h => nd2.2.2 w h w (by simp [hw]) rfl
  have w2 : w ≠ z := fun h => nd2.2.1.1 (h ▸ hw)
  simp only [List.mem_append, List.mem_cons] at hm
  have hy : w ∈ ys := by
    rcases hm with h | h | h
    · exact absurd h w1
    · exact absurd h w2
    · exact h
  -- the parts of both ways from z to w are the same
  obtain ⟨y1, y2, ey⟩ := List.append_of_mem hy
  obtain ⟨z1, z2, ez⟩ := List.append_of_mem hw
  have t1 := hp.cut.2
  have t2 := hq.cut.2
  rw [ey, show z :: (y1 ++ w :: y2) = (z :: y1) ++ w :: y2 from rfl] at t1
  rw [ez, show z :: (z1 ++ w :: z2) = (z :: z1) ++ w :: z2 from rfl] at t2
  have e := d.uniq t1.cut.1 t2.cut.1
  simp only [List.cons_append, List.cons.injEq, true_and] at e
  cases y1 with
  | nil => cases z1 with
    | nil => exact hne w w (by rw [ey]; rfl) (by rw [ez]; rfl) rfl
    | cons k z1 => simp at e
  | cons j y1 => cases z1 with
    | nil => simp at e
    | cons k z1 =>
      simp only [List.cons_append, List.cons.injEq] at e
      exact hne j k (by rw [ey]; rfl) (by rw [ez]; rfl) e.1

theorem FO.meet {E : Nat → Nat → Prop} (d : FO E) {a b c z w : Nat} (m1 : Mt3 E a b c z) (m2 : Mt3 E a b c w) : z = w := by
  obtain ⟨p, q, r, s1, _, s3, _⟩ := id m1
  obtain ⟨xs, x, ys, zs, rfl, rfl, dj⟩ := d.part s1 s3
  rw [Mt3.at d s1 s3 dj m1, Mt3.at d s1 s3 dj m2]

theorem Mt3.swap {E : Nat → Nat → Prop} (d : FO E) {a b c z : Nat} (m : Mt3 E a b c z) : Mt3 E b a c z := by
  obtain ⟨p, q, r, s1, s2, s3, m1, m2, m3⟩ := m
  exact ⟨_, _, _, s1.rev d.sym, s3, s2, by simpa using m1, m3, m2⟩
theorem Mt3.swap2 {E : Nat → Nat → Prop} (d : FO E) {a b c z : Nat} (m : Mt3 E a b c z) : Mt3 E a c b z := by
  obtain ⟨p, q, r, s1, s2, s3, m1, m2, m3⟩ := m
  exact ⟨_, _, _, s3, s2.rev d.sym, s1, m3, by simpa using m2, m1⟩

end Go.Hx
