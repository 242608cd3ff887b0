/- Link-cut forests: all the splay trees of a forest. Plain; no program. No condition. -/
import Derived.Test.YtjpmgekdgpkcfaaHxLctD
namespace Go.Hx
set_option linter.unusedSimpArgs false
set_option linter.unusedVariables false

/-- Each vertex's parent is the one before it. -/
def chn (pa : Nat → Int) : Int → List Nat → Prop
  | _, [] => True
  | p, x :: xs => pa x = p ∧ chn pa x xs

theorem chn_app {pa : Nat → Int} {p : Int} {xs ys : List Nat} {x : Nat} : chn pa p (xs ++ x :: ys) ↔ chn pa p (xs ++ [x]) ∧ chn pa x ys := by
  induction xs generalizing p with
  | nil => simp [chn]
  | cons y xs ih => simp only [List.cons_append, chn, ih, and_assoc]

/-- What hangs on a vertex. -/
def hsum (N : NN) (F : List (Tr × Int)) (x : Nat) : Int := F.foldr (fun f s => (if f.2 = (x : Int) then (N f.1.rt.toNat).all else 0) + s) 0

theorem hsum_cons (N : NN) (f : Tr × Int) (F : List (Tr × Int)) (x : Nat) : hsum N (f :: F) x = (if f.2 = (x : Int) then (N f.1.rt.toNat).all else 0) + hsum N F x := rfl
theorem hsum_perm {N : NN} {F F' : List (Tr × Int)} (h : F.Perm F') (x : Nat) : hsum N F x = hsum N F' x := by
  induction h with
  | nil => rfl
  | cons f _ ih => rw [hsum_cons, hsum_cons, ih]
  | swap f g l => simp only [hsum_cons]; omega
  | trans _ _ h1 h2 => exact h1.trans h2
theorem hsum_congr {N N' : NN} {F : List (Tr × Int)} {x : Nat} (h : ∀ f, f ∈ F → (N' f.1.rt.toNat).all = (N f.1.rt.toNat).all) : hsum N' F x = hsum N F x := by
  induction F with
  | nil => rfl
  | cons f F ih =>
    rw [hsum_cons, hsum_cons, h f (List.mem_cons_self ..), ih fun g hg => h g (List.mem_cons_of_mem _ hg)]

/-- The splay trees of a forest. -/
structure LF (n : Nat) (N : NN) (pa : Nat → Int) (F : List (Tr × Int)) : Prop where
  rs : ∀ f, f ∈ F → RS N false f.1 f.2
  ag : ∀ f, f ∈ F → AG N f.1
  ne : ∀ f, f ∈ F → f.1 ≠ .nil
  pp : ∀ f, f ∈ F → f.2 = -1 ∨ ∃ x : Nat, f.2 = x ∧ x < n ∧ x ∉ f.1.seq
  nd : (F.flatMap fun f => f.1.seq).Nodup
  cov : ∀ u, u < n ↔ ∃ f, f ∈ F ∧ u ∈ f.1.seq
  hg : ∀ x, x < n → (N x).hang = w64 (hsum N F x)
  pc : ∀ f, f ∈ F → chn pa f.2 f.1.seq
  dp : ∃ dep : Nat → Nat, ∀ x y : Nat, pa x = y → dep y < dep x

namespace LF
variable {n : Nat} {N : NN} {pa : Nat → Int} {F : List (Tr × Int)}

theorem perm {F' : List (Tr × Int)} (d : LF n N pa F) (h : F.Perm F') : LF n N pa F' :=
  ⟨fun f hf => d.rs f (h.mem_iff.2 hf), fun f hf => d.ag f (h.mem_iff.2 hf), fun f hf => d.ne f (h.mem_iff.2 hf), fun f hf => d.pp f (h.mem_iff.2 hf), (h.flatMap_right _).nodup_iff.1 d.nd,
    fun u => (d.cov u).trans ⟨fun ⟨f, hf, hu⟩ => ⟨f, h.mem_iff.1 hf, hu⟩, fun ⟨f, hf, hu⟩ => ⟨f, h.mem_iff.2 hf, hu⟩⟩, fun x hx => by rw [d.hg x hx, hsum_perm h], fun f hf => d.pc f (h.mem_iff.2 hf), d.dp⟩

/-- The tree of a vertex in front. -/
theorem front (d : LF n N pa F) {u : Nat} (hu : u < n) : ∃ T pp G, u ∈ T.seq ∧ F.Perm ((T, pp) :: G) := by
  obtain ⟨⟨T, pp⟩, hf, hm⟩ := (d.cov u).1 hu
  obtain ⟨A, B, rfl⟩ := List.append_of_mem hf
  exact ⟨T, pp, A ++ B, hm, List.perm_middle⟩

theorem disj {f : Tr × Int} {G : List (Tr × Int)} (d : LF n N pa (f :: G)) {g : Tr × Int} (hg : g ∈ G) (u : Nat) (h1 : u ∈ f.1.seq) (h2 : u ∈ g.1.seq) : False := by
  have nd := d.nd
  rw [List.flatMap_cons, List.nodup_append] at nd
  exact nd.2.2 u h1 u (List.mem_flatMap.2 ⟨g, hg, h2⟩) rfl

/-- One tree, whole. -/
theorem tt {T : Tr} {pp : Int} {G : List (Tr × Int)} (d : LF n N pa ((T, pp) :: G)) : TT n N T pp := by
  have hm : (T, pp) ∈ (T, pp) :: G := List.mem_cons_self ..
  have nd := d.nd
  rw [List.flatMap_cons, List.nodup_append] at nd
  refine ⟨d.rs _ hm, d.ag _ hm, nd.1, fun u hu => (d.cov u).2 ⟨_, hm, hu⟩, ?_⟩
  rcases d.pp _ hm with h | ⟨x, hx, hn, hT⟩
  · exact .inl h
  · refine .inr ⟨x, hx, hn, hT, fun u hu => ?_⟩
    obtain ⟨g, hg, hxg⟩ := (d.cov x).1 hn
    have hgG : g ∈ G := by
      rcases List.mem_cons.1 hg with rfl | hg
      · exact absurd hxg hT
      · exact hg
    obtain ⟨k0, k1⟩ := (d.rs g hg).kids hxg
    constructor
    · intro e
      rcases k0 with k | ⟨w, k, hw⟩
      · omega
      · obtain rfl : w = u := by omega
        exact d.disj hgG w hu hw
    · intro e
      rcases k1 with k | ⟨w, k, hw⟩
      · omega
      · obtain rfl : w = u := by omega
        exact d.disj hgG w hu hw

theorem rt_in {t : Tr} (h : t ≠ .nil) : t.rt.toNat ∈ t.seq ∧ ((t.rt.toNat : Nat) : Int) = t.rt := by
  cases t with
  | nil => exact absurd rfl h
  | nd l v r => exact ⟨by simp [Tr.seq, Tr.rt], by simp [Tr.rt]⟩

theorem all_root {t : Tr} (h : t ≠ .nil) (g : AG N t) : (N t.rt.toNat).all = w64 (sumH N t.seq) := by
  cases t with
  | nil => exact absurd rfl h
  | nd l v r => exact g.1.2.2

/-- A tree in another form, with the same list. -/
theorem reform {T T' : Tr} {pp : Int} {G : List (Tr × Int)} {N' : NN} (d : LF n N pa ((T, pp) :: G)) (t : TT n N' T' pp) (hs : T'.seq = T.seq) (o : Out N N' T.seq) : LF n N' pa ((T', pp) :: G) := by
  have oG : ∀ g, g ∈ G → ∀ u, u ∈ g.1.seq → N' u = N u := fun g hg u hu => o.out u fun q => d.disj hg u q hu
  have hT : T ≠ .nil := d.ne _ (List.mem_cons_self ..)
  have hT' : T' ≠ .nil := fun q => by
    subst q
    have : (rt_in hT).1 = (rt_in hT).1 := rfl
    have h1 := (rt_in hT).1
    rw [← hs] at h1; cases h1
  have hm : ∀ g, g ∈ G → g ∈ (T, pp) :: G := fun g hg => List.mem_cons_of_mem _ hg
  have sG : ∀ g, g ∈ G → ∀ u, u ∈ g.1.seq → sam N N' u ∧ sag N N' u := fun g hg u hu => by
    rw [sam, sag, oG g hg u hu]; exact ⟨⟨rfl, rfl, rfl, rfl⟩, rfl, rfl, rfl, rfl, rfl⟩
  refine ⟨?_, ?_, ?_, ?_, ?_, fun u => ?_, fun x hx => ?_, ?_, d.dp⟩
  · intro f hf
    rcases List.mem_cons.1 hf with rfl | hf
    · exact t.rs
    · exact (d.rs f (hm f hf)).congr fun u hu => (sG f hf u hu).1
  · intro f hf
    rcases List.mem_cons.1 hf with rfl | hf
    · exact t.ag
    · exact (d.ag f (hm f hf)).congr fun u hu => (sG f hf u hu).2
  · intro f hf
    rcases List.mem_cons.1 hf with rfl | hf
    · exact hT'
    · exact d.ne f (hm f hf)
  · intro f hf
    rcases List.mem_cons.1 hf with rfl | hf
    · show _ ∨ ∃ x : Nat, _ ∧ _ ∧ x ∉ T'.seq
      rw [hs]; exact d.pp _ (List.mem_cons_self ..)
    · exact d.pp f (hm f hf)
  · have := d.nd
    rw [List.flatMap_cons] at this ⊢
    show (T'.seq ++ _).Nodup
    rw [hs]; exact this
  · refine (d.cov u).trans ⟨fun ⟨f, hf, hu⟩ => ?_, fun ⟨f, hf, hu⟩ => ?_⟩
    · rcases List.mem_cons.1 hf with rfl | hf
      · exact ⟨(T', pp), List.mem_cons_self .., by show u ∈ T'.seq; rw [hs]; exact hu⟩
      · exact ⟨f, List.mem_cons_of_mem _ hf, hu⟩
    · rcases List.mem_cons.1 hf with rfl | hf
      · exact ⟨(T, pp), List.mem_cons_self .., by show u ∈ T.seq; rw [← hs]; exact hu⟩
      · exact ⟨f, List.mem_cons_of_mem _ hf, hu⟩
  · rw [o.hang, d.hg x hx]
    congr 1
    rw [hsum_cons, hsum_cons]
    have e1 : (N' T'.rt.toNat).all = (N T.rt.toNat).all := by
      rw [all_root hT' t.ag, all_root hT (d.ag _ (List.mem_cons_self ..)), hs, sumH_congr fun x _ => o.hang x]
    have e2 : hsum N' G x = hsum N G x := hsum_congr fun g hg => by
      rw [oG g hg _ (rt_in (d.ne g (hm g hg))).1]
    simp only [e1, e2]
  · intro f hf
    rcases List.mem_cons.1 hf with rfl | hf
    · show chn pa pp T'.seq
      rw [hs]; exact d.pc _ (List.mem_cons_self ..)
    · exact d.pc f (hm f hf)

theorem chn_dep {p : Int} {xs : List Nat} {dep : Nat → Nat} (h : chn pa p xs) (hd : ∀ x y : Nat, pa x = y → dep y < dep x) {q : Nat} (hp : p = q) {y : Nat} (hy : y ∈ xs) : dep q < dep y := by
  induction xs generalizing p q with
  | nil => cases hy
  | cons x xs ih =>
    obtain ⟨h1, h2⟩ := h
    have := hd x q (h1.trans hp)
    rcases List.mem_cons.1 hy with rfl | hy
    · exact this
    · exact Nat.lt_trans this (ih h2 rfl hy)
end LF

/-- A tree, if it is one. -/
def opt : Tr → Int → List (Tr × Int)
  | .nil, _ => []
  | .nd l v r, x => [(.nd l v r, x)]

theorem opt_mem {t : Tr} {x : Int} {f : Tr × Int} (h : f ∈ opt t x) : f = (t, x) ∧ t ≠ .nil := by
  cases t with
  | nil => cases h
  | nd l v r => simp only [opt, List.mem_singleton] at h; exact ⟨h, fun q => by cases q⟩
theorem opt_seq (t : Tr) (x : Int) : ((opt t x).flatMap fun f => f.1.seq) = t.seq := by
  cases t with
  | nil => rfl
  | nd l v r => simp [opt]
def allT (N : NN) (t : Tr) : Int := if t.rt = -1 then 0 else (N t.rt.toNat).all
theorem allT_nd (N : NN) (l r : Tr) (v : Nat) : allT N (.nd l v r) = (N v).all := by
  unfold allT
  rw [if_neg (show ¬ (Tr.nd l v r).rt = -1 by simp only [Tr.rt]; omega)]
  rfl
theorem opt_hsum (N : NN) (t : Tr) (u x : Nat) (G : List (Tr × Int)) : hsum N (opt t u ++ G) x = (if u = x then allT N t else 0) + hsum N G x := by
  cases t with
  | nil => simp [opt, allT, Tr.rt]
  | nd l v r =>
    rw [allT_nd]
    simp only [opt, List.singleton_append, hsum_cons, Tr.rt, Int.toNat_natCast]
    by_cases q : u = x
    · rw [if_pos q, if_pos (by omega)]
    · rw [if_neg q, if_neg (by omega)]
theorem allT_sum {N : NN} {t : Tr} (g : AG N t) : allT N t = w64 (sumH N t.seq) := by
  cases t with
  | nil => simp [allT, Tr.rt, Tr.seq, sumH]; rfl
  | nd l v r =>
    rw [allT_nd]; exact g.1.2.2

/-- The right part goes, another one comes. -/
def stepN (N : NN) (u : Nat) (k : Int) (H : Int) : NN := pullN (fun w => if w = u then { N u with k1 := k, hang := H } else N w) u

theorem LF.step {n : Nat} {N : NN} {pa : Nat → Int} {G : List (Tr × Int)} {l r tl : Tr} {u : Nat} {pp : Int} (d : LF n N pa ((.nd l u r, pp) :: (opt tl u ++ G))) (hr : (N u).rev = false) (hn : n ≤ 65536) :
    LF n (stepN N u tl.rt (w64 (w64 ((N u).hang + allT N r) - allT N tl))) pa ((.nd l u tl, pp) :: (opt r u ++ G)) ∧ PO n (fun w => if w = u then { N u with k1 := tl.rt, hang := w64 (w64 ((N u).hang + allT N r) - allT N tl) } else N w) u ∧ (stepN N u tl.rt (w64 (w64 ((N u).hang + allT N r) - allT N tl)) u).rev = false ∧ (N u).k0 = l.rt ∧ (N u).k1 = r.rt ∧ (∀ w, (stepN N u tl.rt (w64 (w64 ((N u).hang + allT N r) - allT N tl)) w).key = (N w).key) := by
  obtain ⟨H, hH⟩ : ∃ H, H = w64 (w64 ((N u).hang + allT N r) - allT N tl) := ⟨_, rfl⟩
  rw [← hH]
  obtain ⟨N1, h1⟩ : ∃ N1 : NN, N1 = fun w => if w = u then { N u with k1 := tl.rt, hang := H } else N w := ⟨_, rfl⟩
  have hN' : stepN N u tl.rt H = pullN N1 u := by rw [h1]; rfl
  rw [hN', ← h1]
  have n1u : N1 u = { N u with k1 := tl.rt, hang := H } := by rw [h1]; simp
  have n1o : ∀ w, w ≠ u → N1 w = N w := fun w hw => by rw [h1]; simp [hw]
  -- the parts
  have hT : (Tr.nd l u r, pp) ∈ (Tr.nd l u r, pp) :: (opt tl u ++ G) := List.mem_cons_self ..
  have hG : ∀ f, f ∈ G → f ∈ (Tr.nd l u r, pp) :: (opt tl u ++ G) := fun f hf => by simp [hf]
  have htl : tl ≠ .nil → (tl, (u : Int)) ∈ (Tr.nd l u r, pp) :: (opt tl u ++ G) := fun q => by
    cases tl with
    | nil => exact absurd rfl q
    | nd a b c => simp [opt]
  have nd0 := d.nd
  rw [List.flatMap_cons, List.flatMap_append, opt_seq] at nd0
  simp only [Tr.seq] at nd0
  rw [List.nodup_append] at nd0
  obtain ⟨nA, nB, nAB⟩ := nd0
  have nA' := nA
  rw [List.nodup_append, List.nodup_cons] at nA'
  obtain ⟨nl, ⟨ur, nr⟩, lur⟩ := nA'
  have ul : u ∉ l.seq := fun q => lur u q u (by simp) rfl
  have uB : ∀ w, w ∈ tl.seq ∨ (∃ f, f ∈ G ∧ w ∈ f.1.seq) → w ≠ u ∧ w ∉ l.seq ∧ w ∉ r.seq := fun w hw => by
    have hw' : w ∈ tl.seq ++ G.flatMap fun f => f.1.seq := by
      rw [List.mem_append, List.mem_flatMap]; exact hw
    exact ⟨fun e => nAB u (by simp) w hw' e.symm, fun h => nAB w (by simp [h]) w hw' rfl, fun h => nAB w (by simp [h]) w hw' rfl⟩
  obtain ⟨a1, a2, a3, a4⟩ := d.rs _ hT
  simp only [hr, Bool.xor_false, Bool.false_eq_true, if_false] at a2 a3 a4
  obtain ⟨g1, g2, g3⟩ := d.ag _ hT
  have RStl : RS N false tl u := by
    by_cases q : tl = .nil
    · rw [q]; trivial
    · exact d.rs _ (htl q)
  have AGtl : AG N tl := by
    by_cases q : tl = .nil
    · rw [q]; trivial
    · exact d.ag _ (htl q)
  have un : u < n := (d.cov u).2 ⟨_, hT, by simp [Tr.seq]⟩
  have ltn : ∀ w, w ∈ l.seq ∨ w ∈ tl.seq ∨ w ∈ r.seq → w < n := fun w hw => by
    rcases hw with hw | hw | hw
    · exact (d.cov w).2 ⟨_, hT, by simp [Tr.seq, hw]⟩
    · exact (d.cov w).2 ⟨_, htl (fun q => by rw [q] at hw; cases hw), hw⟩
    · exact (d.cov w).2 ⟨_, hT, by simp [Tr.seq, hw]⟩
  -- nothing else changes
  have sm : ∀ w, w ≠ u → sam N (pullN N1 u) w ∧ sag N (pullN N1 u) w := fun w hw => by
    rw [sam, sag, pullN_out hw, n1o w hw]; exact ⟨⟨rfl, rfl, rfl, rfl⟩, rfl, rfl, rfl, rfl, rfl⟩
  have rsO : ∀ {t : Tr} {q : Int}, RS N false t q → u ∉ t.seq → RS (pullN N1 u) false t q := fun h hu => h.congr fun w hw => (sm w fun e => hu (e ▸ hw)).1
  have agO : ∀ {t : Tr}, AG N t → u ∉ t.seq → AG (pullN N1 u) t := fun h hu => h.congr fun w hw => (sm w fun e => hu (e ▸ hw)).2
  have ag1 : ∀ {t : Tr}, AG N t → u ∉ t.seq → AG N1 t := fun h hu => h.congr fun w hw => by
    rw [sag, n1o w fun e => hu (e ▸ hw)]; exact ⟨rfl, rfl, rfl, rfl, rfl⟩
  have utl : u ∉ tl.seq := fun q => (uB u (.inl q)).1 rfl
  have uG : ∀ f, f ∈ G → u ∉ f.1.seq := fun f hf q => (uB u (.inr ⟨f, hf, q⟩)).1 rfl
  obtain ⟨s1, s2, s3, s4⟩ := pullN_sam N1 u u
  have newnd : (l.seq ++ u :: tl.seq).Nodup := by
    rw [List.nodup_append, List.nodup_cons]
    rw [List.nodup_append] at nB
    refine ⟨nl, ⟨utl, nB.1⟩, fun x hx y hy e => ?_⟩
    subst e
    rcases List.mem_cons.1 hy with q | hy
    · subst q; exact ul hx
    · exact (uB x (.inl hy)).2.1 hx
  have len : (l.seq ++ u :: tl.seq).length ≤ n := nodup_len n _ newnd fun w hw => by
    rw [List.mem_append, List.mem_cons] at hw
    rcases hw with hw | rfl | hw
    · exact ltn w (.inl hw)
    · exact un
    · exact ltn w (.inr (.inl hw))
  have gu : agg (pullN N1 u) u (l.seq ++ u :: tl.seq) := pull_agg (by rw [n1u]; exact a2.1) (by rw [n1u]) (ag1 g2 ul) (ag1 AGtl utl) (by omega)
  have AGT : AG (pullN N1 u) (.nd l u tl) := ⟨gu, agO g2 ul, agO AGtl utl⟩
  have hgu : (pullN N1 u u).hang = H := by rw [(pullN_kh N1 u u).2, n1u]
  have hgo : ∀ w, w ≠ u → (pullN N1 u w).hang = (N w).hang := fun w hw => (sm w hw).2.2.2.2.1
  have ppu : pp ≠ (u : Int) := by
    rcases d.pp _ hT with h | ⟨x, hx, _, hxT⟩
    · simp only at h; omega
    · simp only at hx hxT
      intro e
      obtain rfl : x = u := by omega
      exact hxT (by simp [Tr.seq])
  have alr := allT_sum g3
  have altl := allT_sum AGtl
  have sumo : ∀ {xs : List Nat}, u ∉ xs → sumH (pullN N1 u) xs = sumH N xs := fun {xs} hu => sumH_congr fun w hw => hgo w fun e => hu (e ▸ hw)
  have hallu : (pullN N1 u u).all = (N u).all := by
    have e1 : (pullN N1 u u).all = w64 (sumH (pullN N1 u) (l.seq ++ u :: tl.seq)) := gu.2.2
    have e2 : (N u).all = w64 (sumH N (l.seq ++ u :: r.seq)) := g1.2.2
    have e3 : sumH (pullN N1 u) (l.seq ++ u :: tl.seq) = sumH N l.seq + (1 + H + sumH N tl.seq) := by
      rw [sumH_app, sumo ul]
      show _ + (1 + (pullN N1 u u).hang + sumH (pullN N1 u) tl.seq) = _
      rw [hgu, sumo utl]
    have e4 : sumH N (l.seq ++ u :: r.seq) = sumH N l.seq + (1 + (N u).hang + sumH N r.seq) := by rw [sumH_app]; rfl
    rw [e1, e2, e3, e4, hH, alr, altl]
    simp only [w64, IntKind.wrap_i64]
    omega
  have hallG : ∀ x, hsum (pullN N1 u) G x = hsum N G x := fun x => hsum_congr fun f hf => by
    have := (LF.rt_in (d.ne f (hG f hf))).1
    exact (sm _ fun e => uG f hf (e ▸ this)).2.2.2.2.2
  have allTr : allT (pullN N1 u) r = allT N r := by
    unfold allT
    by_cases q : r = .nil
    · rw [q]; rfl
    · have := (LF.rt_in q).1
      rw [(sm _ fun e => ur (e ▸ this)).2.2.2.2.2]
  refine ⟨⟨fun f hf => ?_, fun f hf => ?_, fun f hf => ?_, fun f hf => ?_, ?_, fun w => ?_, fun x hx => ?_, fun f hf => ?_, d.dp⟩, ?_, ?_, a2.1, a2.2, fun w => ?_⟩
  · rcases List.mem_cons.1 hf with rfl | hf
    · refine ⟨by rw [s1, n1u]; exact a1, ?_, ?_, ?_⟩
      all_goals rw [s4, n1u]; simp only [hr, Bool.xor_false, Bool.false_eq_true, if_false]
      · rw [s2, s3, n1u]; exact ⟨a2.1, rfl⟩
      · exact rsO a3 ul
      · exact rsO RStl utl
    · rcases List.mem_append.1 hf with hf | hf
      · obtain ⟨rfl, _⟩ := opt_mem hf
        exact rsO a4 ur
      · exact rsO (d.rs f (hG f hf)) (uG f hf)
  · rcases List.mem_cons.1 hf with rfl | hf
    · exact AGT
    · rcases List.mem_append.1 hf with hf | hf
      · obtain ⟨rfl, _⟩ := opt_mem hf
        exact agO g3 ur
      · exact agO (d.ag f (hG f hf)) (uG f hf)
  · rcases List.mem_cons.1 hf with rfl | hf
    · exact fun q => by cases q
    · rcases List.mem_append.1 hf with hf | hf
      · obtain ⟨rfl, q⟩ := opt_mem hf; exact q
      · exact d.ne f (hG f hf)
  · rcases List.mem_cons.1 hf with rfl | hf
    · rcases d.pp _ hT with h | ⟨x, hx, hxn, hxT⟩
      · exact .inl h
      · refine .inr ⟨x, hx, hxn, ?_⟩
        simp only [Tr.seq, List.mem_append, List.mem_cons, not_or] at hxT ⊢
        refine ⟨hxT.1, hxT.2.1, fun q => ?_⟩
        obtain ⟨dep, hd⟩ := d.dp
        have c1 := LF.chn_dep (d.pc _ hT) hd hx (show u ∈ (Tr.nd l u r).seq by simp [Tr.seq])
        have c2 := LF.chn_dep (d.pc _ (htl fun e => by rw [e] at q; cases q)) hd rfl q
        omega
    · rcases List.mem_append.1 hf with hf | hf
      · obtain ⟨rfl, _⟩ := opt_mem hf
        exact .inr ⟨u, rfl, un, ur⟩
      · exact d.pp f (hG f hf)
  · rw [List.flatMap_cons, List.flatMap_append, opt_seq]
    have h0 := d.nd
    rw [List.flatMap_cons, List.flatMap_append, opt_seq] at h0
    refine (List.Perm.nodup_iff ?_).1 h0
    simp only [Tr.seq, List.append_assoc, List.cons_append]
    refine List.Perm.append_left _ (List.Perm.cons _ ?_)
    rw [← List.append_assoc, ← List.append_assoc]
    exact List.perm_append_comm.append_right _
  · refine (d.cov w).trans ?_
    have key : ∀ a b : Tr, (∃ f, f ∈ (Tr.nd l u a, pp) :: (opt b u ++ G) ∧ w ∈ f.1.seq) ↔ (w ∈ l.seq ∨ w = u ∨ w ∈ a.seq) ∨ w ∈ b.seq ∨ ∃ f, f ∈ G ∧ w ∈ f.1.seq := fun a b => by
      rw [← List.mem_flatMap, List.flatMap_cons, List.flatMap_append, opt_seq]
      simp only [Tr.seq, List.mem_append, List.mem_cons, List.mem_flatMap]
    rw [key, key]
    constructor
    · rintro ((q | q | q) | q | q)
      · exact .inl (.inl q)
      · exact .inl (.inr (.inl q))
      · exact .inr (.inl q)
      · exact .inl (.inr (.inr q))
      · exact .inr (.inr q)
    · rintro ((q | q | q) | q | q)
      · exact .inl (.inl q)
      · exact .inl (.inr (.inl q))
      · exact .inr (.inl q)
      · exact .inl (.inr (.inr q))
      · exact .inr (.inr q)
  · have h0 := d.hg x hx
    rw [hsum_cons, opt_hsum] at h0 ⊢
    simp only [Tr.rt, Int.toNat_natCast] at h0 ⊢
    rw [hallu, hallG, allTr]
    by_cases q : x = u
    · subst q
      rw [hgu, hH]
      rw [if_neg ppu, if_pos rfl] at h0 ⊢
      rw [h0]
      simp only [w64, IntKind.wrap_i64]
      omega
    · rw [hgo x q]
      rw [if_neg (show ¬ u = x from fun e => q e.symm)] at h0 ⊢
      exact h0
  · rcases List.mem_cons.1 hf with rfl | hf
    · show chn pa pp (l.seq ++ u :: tl.seq)
      rw [chn_app]
      refine ⟨(chn_app.1 (d.pc _ hT)).1, ?_⟩
      by_cases q : tl = .nil
      · rw [q]; trivial
      · exact d.pc _ (htl q)
    · rcases List.mem_append.1 hf with hf | hf
      · obtain ⟨rfl, _⟩ := opt_mem hf
        exact (chn_app.1 (d.pc _ hT)).2
      · exact d.pc f (hG f hf)
  · exact PO.of (l := l) (r := tl) (by rw [n1u]; exact a2.1) (by rw [n1u]) (ag1 g2 ul) (ag1 AGtl utl) (fun w hw => ltn w (hw.imp_right .inl)) ⟨ul, utl⟩
  · rw [s4, n1u]; exact hr
  · by_cases q : w = u
    · subst q; rw [(pullN_kh N1 w w).1, n1u]
    · exact (sm w q).2.1

end Go.Hx
