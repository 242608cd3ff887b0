/- Link-cut forests: what each function answers, over a list of edges. No condition. -/
import Derived.Test.YtjpmgekdgpkcfaaHxLctCp
import Derived.Test.YtjpmgekdgpkcfaaHxLctR
import Derived.Test.YtjpmgekdgpkcfaaHxLctS
import Derived.Test.YtjpmgekdgpkcfaaHxLctX
import Derived.Test.YtjpmgekdgpkcfaaHxLctY
import Derived.Test.YtjpmgekdgpkcfaaHxLctZ
namespace Go.Hx
set_option linter.unusedSimpArgs false
set_option linter.unusedVariables false

abbrev Es := List (Nat × Nat)
/-- Joined by an edge of the list. -/
def eL (L : Es) (p q : Nat) : Prop := (p, q) ∈ L ∨ (q, p) ∈ L
/-- No edge is there twice. -/
def UQ (L : Es) : Prop := L.Pairwise fun e f => e ≠ f ∧ e ≠ (f.2, f.1)

theorem eL_sym {L : Es} {p q : Nat} (h : eL L p q) : eL L q p := h.symm
theorem eL_app {L : Es} {u v p q : Nat} : eL (L ++ [(u, v)]) p q ↔ eL L p q ∨ (p = u ∧ q = v) ∨ (p = v ∧ q = u) := by
  simp only [eL, List.mem_append, List.mem_singleton, Prod.mk.injEq]
  constructor
  · rintro ((h | h) | h | ⟨h1, h2⟩)
    · exact .inl (.inl h)
    · exact .inr (.inl h)
    · exact .inl (.inr h)
    · exact .inr (.inr ⟨h2, h1⟩)
  · rintro ((h | h) | h | ⟨h1, h2⟩)
    · exact .inl (.inl h)
    · exact .inr (.inl h)
    · exact .inl (.inr h)
    · exact .inr (.inr ⟨h2, h1⟩)

/-- A forest in the heap: its edges, its keys. -/
structure LT (h : Hp) (a b n : Nat) (L : Es) (key : Nat → Int) : Prop where
  ex : ∃ N pa F, FS h a b n N ((n : Int) - L.length) ∧ LF n N pa F ∧ (∀ p q, Ed pa p q ↔ eL L p q) ∧ ∀ v, v < n → (N v).key = key v
  bd : ∀ e, e ∈ L → e.1 < n ∧ e.2 < n
  uq : UQ L
  len : L.length < 2 ^ 40

def rng (n : Nat) (x : Int) : Prop := 0 ≤ x ∧ x < (n : Int)
/-- Connected. -/
def cnI (E : Nat → Nat → Prop) (n : Nat) (x y : Int) : Prop := ∃ u v : Nat, x = u ∧ y = v ∧ u < n ∧ v < n ∧ Cn E u v
def bk (key : Nat → Int) (a b : Nat) : Prop := key a < key b ∨ key a = key b ∧ a < b
/-- The first one of a list. -/
def mnI (key : Nat → Int) (p : List Nat) (m : Int) (c : Bool) : Prop := (p = [] ∧ m = 0 ∧ c = false) ∨ ∃ w, w ∈ p ∧ m = (w : Nat) ∧ c = true ∧ ∀ z, z ∈ p → ¬ bk key z w
def meI (E : Nat → Nat → Prop) (n : Nat) (x y t : Int) (m : Int) (c : Bool) : Prop := (m = 0 ∧ c = false ∧ ¬ (cnI E n x y ∧ cnI E n x t)) ∨ ∃ u v w z : Nat, x = u ∧ y = v ∧ t = w ∧ u < n ∧ v < n ∧ w < n ∧ Mt3 E u v w z ∧ m = z ∧ c = true
def szI (E : Nat → Nat → Prop) (n : Nat) (x : Int) (r : Int) : Prop := (¬ rng n x ∧ r = 0) ∨ ∃ (v : Nat) (M : List Nat), x = v ∧ v < n ∧ M.Nodup ∧ (∀ z, z ∈ M ↔ z < n ∧ Cn E v z) ∧ r = (M.length : Nat)
def lkI (L : Es) (n : Nat) (x y : Int) (r : Int) (L' : Es) : Prop := (r = 3 ∧ L' = L ∧ ¬ (rng n x ∧ rng n y)) ∨ (r = 9 ∧ L' = L ∧ rng n x ∧ x = y) ∨
  ∃ u v : Nat, x = u ∧ y = v ∧ u < n ∧ v < n ∧ u ≠ v ∧ ((r = 6 ∧ L' = L ∧ Cn (eL L) u v) ∨ (r = 0 ∧ L' = L ++ [(u, v)] ∧ ¬ Cn (eL L) u v))

theorem LT.fo {h : Hp} {a b n : Nat} {L : Es} {key : Nat → Int} (d : LT h a b n L key) : FO (eL L) := by
  obtain ⟨N, pa, F, _, lf, he, _⟩ := d.ex
  exact lf.fo.congr he

theorem LT.keep {h h' : Hp} {a b n : Nat} {L : Es} {key : Nat → Int} (d : LT h a b n L key) (hz : h.size ≤ h'.size) (h1 : h'.blk a = h.blk a) (h2 : h'.blk b = h.blk b) : LT h' a b n L key := by
  obtain ⟨⟨N, pa, F, fs, lf, he, hk⟩, x, y, z⟩ := d
  exact ⟨⟨N, pa, F, fs.keep hz h1 h2, lf, he, hk⟩, x, y, z⟩

theorem LT.lt {h : Hp} {a b n : Nat} {L : Es} {key : Nat → Int} (d : LT h a b n L key) : a < h.size ∧ b < h.size ∧ a ≠ b ∧ n ≤ 65536 := by
  obtain ⟨N, pa, F, fs, _⟩ := d.ex
  exact ⟨fs.la, fs.lb, fs.ne, fs.hn⟩
theorem LT.fr {h h' : Hp} {a b n : Nat} {L : Es} {key : Nat → Int} (d : LT h a b n L key) (f : Fr h.size h h') : LT h' a b n L key := d.keep f.size (f.blk _ d.lt.1) (f.blk _ d.lt.2.1)
theorem LT.other {h h' : Hp} {a b c e n : Nat} {L : Es} {key : Nat → Int} (d : LT h a b n L key) (f : FrB c e h h') (h1 : a ≠ c ∧ a ≠ e) (h2 : b ≠ c ∧ b ≠ e) : LT h' a b n L key :=
  d.keep f.size (f.blk _ d.lt.1 h1.1 h1.2) (f.blk _ d.lt.2.1 h2.1 h2.2)

theorem Cn_lt {L : Es} {n : Nat} (bd : ∀ e, e ∈ L → e.1 < n ∧ e.2 < n) {u v : Nat} (c : Cn (eL L) u v) (hu : u < n) : v < n := by
  refine (c.const (fun w => w < n) fun p q e => ?_).1 hu
  rcases e with e | e
  · have := bd _ e; exact ⟨fun _ => this.2, fun _ => this.1⟩
  · have := bd _ e; exact ⟨fun _ => this.1, fun _ => this.2⟩

theorem pthI.congr {E E' : Nat → Nat → Prop} (h : ∀ p q, E p q ↔ E' p q) {n : Nat} {x y : Int} {p : List Nat} (d : pthI E n x y p) : pthI E' n x y p := by
  rcases d with ⟨h1, h2⟩ | ⟨u, v, h1, h2, h3, h4, h5⟩
  · exact .inl ⟨h1, fun u v a b c d g => h2 u v a b c d ((Cn_congr h u v).2 g)⟩
  · exact .inr ⟨u, v, h1, h2, h3, h4, h5.congr h⟩

theorem pthI.uniq {E : Nat → Nat → Prop} (d : FO E) {n : Nat} {x y : Int} {p q : List Nat} (hp : pthI E n x y p) (hq : pthI E n x y q) : p = q := by
  rcases hp with ⟨rfl, h2⟩ | ⟨u, v, h1, h2, h3, h4, h5⟩
  · rcases hq with ⟨rfl, _⟩ | ⟨u, v, g1, g2, g3, g4, g5⟩
    · rfl
    · exact absurd g5.Cn (h2 u v g1 g2 g3 g4)
  · rcases hq with ⟨rfl, g⟩ | ⟨u', v', g1, g2, g3, g4, g5⟩
    · exact absurd h5.Cn (g u v h1 h2 h3 h4)
    · obtain rfl : u = u' := by omega
      obtain rfl : v = v' := by omega
      exact d.uniq h5 g5

theorem pthI.cn {E : Nat → Nat → Prop} {n : Nat} {x y : Int} {p : List Nat} (hp : pthI E n x y p) : 0 < p.length ↔ cnI E n x y := by
  rcases hp with ⟨rfl, h2⟩ | ⟨u, v, h1, h2, h3, h4, h5⟩
  · refine ⟨fun h => absurd h (by simp), fun ⟨u, v, a, b, c, d, e⟩ => absurd e (h2 u v a b c d)⟩
  · exact ⟨fun _ => ⟨u, v, h1, h2, h3, h4, h5.Cn⟩, fun _ => List.length_pos_iff.2 h5.ne⟩

theorem pthI.of {E : Nat → Nat → Prop} (d : FO E) {n : Nat} {x y : Int} : ∃ p, pthI E n x y p := by
  by_cases g : cnI E n x y
  · obtain ⟨u, v, h1, h2, h3, h4, c⟩ := g
    obtain ⟨p, hp⟩ := d.ex c
    exact ⟨p, .inr ⟨u, v, h1, h2, h3, h4, hp⟩⟩
  · exact ⟨[], .inl ⟨rfl, fun u v a b c d e => g ⟨u, v, a, b, c, d, e⟩⟩⟩

section
variable {h : Hp} {a b n : Nat} {L : Es} {key : Nat → Int}

/-- The state after a function that looks only. -/
theorem LT.again {h' : Hp} {N N' : NN} {pa pa' : Nat → Int} {F' : List (Tr × Int)} (d : LT h a b n L key) (he : ∀ p q, Ed pa p q ↔ eL L p q) (hk : ∀ v, v < n → (N v).key = key v) (d' : FS h' a b n N' ((n : Int) - L.length)) (lf' : LF n N' pa' F') (sa : Sa n N N' pa pa') : LT h' a b n L key :=
  ⟨⟨N', pa', F', d', lf', fun p q => (sa.1 p q).trans (he p q), fun v hv => (sa.2 v).trans (hk v hv)⟩, d.bd, d.uq, d.len⟩

theorem T_conn (d : LT h a b n L key) (x y : Int) (K : Bool → Hp → Prop) (hK : ∀ c h', LT h' a b n L key → FrB a b h h' → (c = true ↔ cnI (eL L) n x y) → K c h') : g_lct_Forest_Connected (some ⟨a, 0, none⟩) x y h K := by
  obtain ⟨N, pa, F, fs, lf, he, hk⟩ := id d.ex
  unfold g_lct_Forest_Connected
  refine lPath_any fs lf x y _ (fun q => hK _ _ d (FrB.refl _ _ _) ⟨fun g => (by cases g), fun ⟨u, v, h1, h2, h3, h4, _⟩ => absurd ⟨⟨by omega, by omega⟩, by omega, by omega⟩ q⟩) fun u v h2 N2 pa2 l G c hx hy hu hv d2 f2 lf2 sa pu hc hf rv => hK c h2 (d.again he hk d2 lf2 sa) f2 ?_
  have hE : ∀ p q, Ed pa2 p q ↔ eL L p q := fun p q => (sa.1 p q).trans (he p q)
  constructor
  · intro g
    exact ⟨u, v, hx, hy, hu, hv, (Cn_congr hE _ _).1 (lf2.Cn (hc.1 g) (by simp [Tr.seq]))⟩
  · rintro ⟨u', v', h1, h3, _, _, g⟩
    obtain rfl : u = u' := by omega
    obtain rfl : v = v' := by omega
    exact hc.2 (lf2.conn pu (by simp [Tr.seq]) ((Cn_congr hE _ _).2 g))

theorem T_path (d : LT h a b n L key) (x y : Int) (K : Sl → Hp → Prop) (hK : ∀ s h' p, LT h' a b n L key → FrB a b h h' → Lst h' 1 s (ints (nats p)) h.size → pthI (eL L) n x y p → K s h') : g_lct_Forest_Path (some ⟨a, 0, none⟩) x y h K := by
  obtain ⟨N, pa, F, fs, lf, he, hk⟩ := id d.ex
  exact lPathL_spec fs lf x y K fun s h' N' pa' F' p d' f' lf' sa ls hp => hK s h' p (d.again he hk d' lf' sa) f' ls (hp.congr he)

theorem way_of {N : NN} {pa : Nat → Int} {l : Tr} {u v : Nat} {G : List (Tr × Int)} (lf : LF n N pa ((.nd l v .nil, -1) :: G)) (hf : ∃ ys, (Tr.nd l v .nil).seq = u :: ys) : SP (Ed pa) u v (Tr.nd l v .nil).seq := by
  obtain ⟨ys, hys⟩ := hf
  have hp := lf.pc _ (List.mem_cons_self ..)
  simp only at hp
  have hl : (Tr.nd l v .nil).seq.getLast? = some v := by simp [Tr.seq]
  rw [hys] at hp hl ⊢
  exact chn_SP lf.dp hp hl

theorem T_dist (d : LT h a b n L key) (x y : Int) (K : Int → Hp → Prop) (hK : ∀ h' p, LT h' a b n L key → FrB a b h h' → pthI (eL L) n x y p → K ((p.length : Nat) - 1) h') : g_lct_Forest_Dist (some ⟨a, 0, none⟩) x y h K := by
  obtain ⟨N, pa, F, fs, lf, he, hk⟩ := id d.ex
  refine lDist_spec fs lf x y K (fun q => hK h [] d (FrB.refl _ _ _) (.inl ⟨rfl, fun u v h1 h2 h3 h4 => absurd ⟨⟨by omega, by omega⟩, by omega, by omega⟩ q⟩)) fun u v h2 N2 pa2 l G hx hy hu hv d2 f2 lf2 sa pu hf => ?_
  have hE : ∀ p q, Ed pa2 p q ↔ eL L p q := fun p q => (sa.1 p q).trans (he p q)
  by_cases q : u ∈ (Tr.nd l v .nil).seq
  · have w := (way_of lf2 (hf q)).congr hE
    have := hK h2 _ (d.again he hk d2 lf2 sa) f2 (.inr ⟨u, v, hx, hy, hu, hv, w⟩)
    rw [if_pos q]
    have l1 := List.length_pos_iff.2 w.ne
    rw [show ((((Tr.nd l v .nil).seq.length - 1 : Nat)) : Int) = ((Tr.nd l v .nil).seq.length : Nat) - 1 by omega]
    exact this
  · rw [if_neg q]
    refine hK h2 [] (d.again he hk d2 lf2 sa) f2 (.inl ⟨rfl, fun u' v' h1 h3 _ _ g => q ?_⟩)
    obtain rfl : u = u' := by omega
    obtain rfl : v = v' := by omega
    exact lf2.conn pu (by simp [Tr.seq]) ((Cn_congr hE _ _).2 g)

theorem T_min (d : LT h a b n L key) (x y : Int) (K : Int → Bool → Hp → Prop) (hK : ∀ m c h' p, LT h' a b n L key → FrB a b h h' → pthI (eL L) n x y p → mnI key p m c → K m c h') : g_lct_Forest_Min (some ⟨a, 0, none⟩) x y h K := by
  obtain ⟨N, pa, F, fs, lf, he, hk⟩ := id d.ex
  refine lMin_spec fs lf x y K (fun q => hK _ _ h [] d (FrB.refl _ _ _) (.inl ⟨rfl, fun u v h1 h2 h3 h4 => absurd ⟨⟨by omega, by omega⟩, by omega, by omega⟩ q⟩) (.inl ⟨rfl, rfl, rfl⟩)) (fun u v h2 N2 pa2 l G hx hy hu hv d2 f2 lf2 sa pu q => ?_) fun u v m h2 N2 pa2 l G hx hy hu hv d2 f2 lf2 sa pu hf hm hmin => ?_
  all_goals have hE : ∀ p q, Ed pa2 p q ↔ eL L p q := fun p q => (sa.1 p q).trans (he p q)
  · refine hK _ _ h2 [] (d.again he hk d2 lf2 sa) f2 (.inl ⟨rfl, fun u' v' h1 h3 _ _ g => q ?_⟩) (.inl ⟨rfl, rfl, rfl⟩)
    obtain rfl : u = u' := by omega
    obtain rfl : v = v' := by omega
    exact lf2.conn pu (by simp [Tr.seq]) ((Cn_congr hE _ _).2 g)
  · refine hK _ _ h2 _ (d.again he hk d2 lf2 sa) f2 (.inr ⟨u, v, hx, hy, hu, hv, (way_of lf2 hf).congr hE⟩) (.inr ⟨m, hm, rfl, rfl, fun z hz g => hmin z hz ?_⟩)
    have l1 := lf2.tt.lt z hz
    have l2 := lf2.tt.lt m hm
    unfold bef
    rw [sa.2 z, sa.2 m, hk z l1, hk m l2]
    exact g

theorem T_meet (d : LT h a b n L key) (x y t : Int) (K : Int → Bool → Hp → Prop) (hK : ∀ m c h', LT h' a b n L key → FrB a b h h' → meI (eL L) n x y t m c → K m c h') : g_lct_Forest_Meet (some ⟨a, 0, none⟩) x y t h K := by
  obtain ⟨N, pa, F, fs, lf, he, hk⟩ := id d.ex
  refine lMeet_spec fs lf x y t K (fun h2 N2 pa2 F2 d2 f2 lf2 sa hno => hK _ _ h2 (d.again he hk d2 lf2 sa) f2 (.inl ⟨rfl, rfl, fun g => ?_⟩)) fun u v w z h2 N2 pa2 F2 hx hy ht hu hv hw d2 f2 lf2 sa pu hz => hK _ _ h2 (d.again he hk d2 lf2 sa) f2 (.inr ⟨u, v, w, z, hx, hy, ht, hu, hv, hw, ?_, rfl, rfl⟩)
  · obtain ⟨⟨u1, v1, g1, g2, g3, g4, g5⟩, u2, v2, k1, k2, k3, k4, k5⟩ := g
    rcases hno with q | ⟨u, v, w, q1, q2, q3, q4, q5⟩
    · exact q ⟨⟨by omega, by omega⟩, ⟨by omega, by omega⟩, by omega, by omega⟩
    · obtain rfl : u = u1 := by omega
      obtain rfl : u = u2 := by omega
      obtain rfl : v = v1 := by omega
      obtain rfl : w = v2 := by omega
      exact q5 ⟨(Cn_congr he _ _).2 g5, (Cn_congr he _ _).2 k5⟩
  · obtain ⟨xs, ys, zs, c1, c2, l1, l2, hd, n1, n2, dj⟩ := hz
    have hE : ∀ p q, Ed pa2 p q ↔ eL L p q := fun p q => (sa.1 p q).trans (he p q)
    have one : ∀ {ts : List Nat} {e : Nat}, chn pa2 (-1) (xs ++ z :: ts) → (xs ++ z :: ts).getLast? = some e → SP (eL L) u e (xs ++ z :: ts) := fun {ts e} c l => by
      have hh : (xs ++ z :: ts).head? = some u := by
        rw [← hd]; cases xs <;> rfl
      cases hq : xs ++ z :: ts with
      | nil => rw [hq] at hh; cases hh
      | cons p ps =>
        rw [hq] at c l hh
        simp only [List.head?_cons, Option.some.injEq] at hh
        subst hh
        exact (chn_SP lf2.dp c l).congr hE
    exact Mt3.of (fun _ _ => eL_sym) (one c1 l1) (one c2 l2) dj

theorem T_size (d : LT h a b n L key) (x : Int) (K : Int → Hp → Prop) (hK : ∀ r h', LT h' a b n L key → FrB a b h h' → szI (eL L) n x r → K r h') : g_lct_Forest_Size (some ⟨a, 0, none⟩) x h K := by
  obtain ⟨N, pa, F, fs, lf, he, hk⟩ := id d.ex
  refine lSize_spec fs lf x K (fun q => hK _ h d (FrB.refl _ _ _) (.inl ⟨q, rfl⟩)) fun v h2 N2 F2 M hx hv d2 f2 lf2 ky nd hM => hK _ h2 (d.again he hk d2 lf2 ⟨fun _ _ => Iff.rfl, ky⟩) f2 (.inr ⟨v, M, hx, hv, nd, fun z => (hM z).trans (and_congr_right fun _ => Cn_congr he _ _), rfl⟩)

theorem T_trees (d : LT h a b n L key) (K : Int → Hp → Prop) (hK : K ((n : Int) - L.length) h) : g_lct_Forest_Trees (some ⟨a, 0, none⟩) h K := by
  obtain ⟨N, pa, F, fs, lf, he, hk⟩ := id d.ex
  exact lTrees_spec fs K hK

theorem T_key (d : LT h a b n L key) (x : Int) (K : Int → Hp → Prop) (hK : K (if 0 ≤ x ∧ x < (n : Int) then key x.toNat else 0) h) : g_lct_Forest_Key (some ⟨a, 0, none⟩) x h K := by
  obtain ⟨N, pa, F, fs, lf, he, hk⟩ := id d.ex
  refine lKey_spec fs x K ?_
  by_cases q : 0 ≤ x ∧ x < (n : Int)
  · rw [if_pos q] at hK ⊢
    rw [hk _ (by omega)]; exact hK
  · rw [if_neg q] at hK ⊢; exact hK

def keyS (key : Nat → Int) (v : Nat) (k : Int) : Nat → Int := fun w => if w = v then k else key w

theorem T_set (d : LT h a b n L key) (x k : Int) (K : Int → Hp → Prop) (hbad : ¬ rng n x → K 3 h) (hok : ∀ (v : Nat) h', x = v → v < n → LT h' a b n L (keyS key v k) → FrB a b h h' → K 0 h') : g_lct_Forest_Set (some ⟨a, 0, none⟩) x k h K := by
  obtain ⟨N, pa, F, fs, lf, he, hk⟩ := id d.ex
  refine lSet_spec fs lf x k K hbad fun v h' N' F' hx hv d' f' lf' ky => hok v h' hx hv ⟨⟨N', pa, F', d', lf', he, fun w hw => ?_⟩, d.bd, d.uq, d.len⟩ f'
  rw [ky]
  unfold keyS
  by_cases q : w = v
  · rw [if_pos q, if_pos q]
  · rw [if_neg q, if_neg q, hk w hw]

theorem UQ.snoc {L : Es} (u : UQ L) {x y : Nat} (h : ¬ eL L x y) : UQ (L ++ [(x, y)]) := by
  unfold UQ
  rw [List.pairwise_append]
  refine ⟨u, by simp, fun e he f hf => ?_⟩
  simp only [List.mem_singleton] at hf
  subst hf
  exact ⟨fun q => h (.inl (q ▸ he)), fun q => h (.inr (q ▸ he))⟩

theorem T_link (d : LT h a b n L key) (hl : L.length + 1 < 2 ^ 40) (x y : Int) (K : Int → Hp → Prop) (hK : ∀ r h' L', LT h' a b n L' key → FrB a b h h' → lkI L n x y r L' → K r h') : g_lct_Forest_Link (some ⟨a, 0, none⟩) x y h K := by
  obtain ⟨N, pa, F, fs, lf, he, hk⟩ := id d.ex
  have hn := fs.hn
  refine lLink_spec fs lf x y K (fun q => hK _ h L d (FrB.refl _ _ _) (.inl ⟨rfl, rfl, q⟩)) (fun q g => hK _ h L d (FrB.refl _ _ _) (.inr (.inl ⟨rfl, rfl, g, q⟩))) (fun u v h2 N2 pa2 l G hx hy hu hv huv d2 f2 lf2 ed ky pu hm => ?_) fun u v h2 N2 pa2 F2 pa1 N1 l G hx hy hu hv huv d2 f2 lf2 ed ky lf1 ed1 pu hm => ?_
  · refine hK _ h2 L (d.again he hk d2 lf2 ⟨ed, ky⟩) f2 (.inr (.inr ⟨u, v, hx, hy, hu, hv, huv, .inl ⟨rfl, rfl, ?_⟩⟩))
    exact (Cn_congr (fun p q => (ed p q).trans (he p q)) _ _).1 (lf2.Cn hm (by simp [Tr.seq]))
  · have hno : ¬ Cn (eL L) u v := fun g => hm (lf1.conn pu (by simp [Tr.seq]) ((Cn_congr (fun p q => (ed1 p q).trans (he p q)) _ _).2 g))
    refine hK _ h2 (L ++ [(u, v)]) ⟨⟨N2, pa2, F2, ?_, lf2, fun p q => ?_, fun w hw => (ky w).trans (hk w hw)⟩, fun e he => ?_, d.uq.snoc fun g => hno (Cn.one g), by simpa using hl⟩ f2 (.inr (.inr ⟨u, v, hx, hy, hu, hv, huv, .inr ⟨rfl, rfl, hno⟩⟩))
    · have : w64 ((n : Int) - L.length - 1) = (n : Int) - (L ++ [(u, v)]).length := by
        rw [w64, w64_eq (by omega) (by omega)]; simp; omega
      rw [← this]; exact d2
    · rw [ed, he, eL_app]
    · rcases List.mem_append.1 he with g | g
      · exact d.bd e g
      · simp only [List.mem_singleton] at g; subst g; exact ⟨hu, hv⟩

/-- Where an edge is in the list. -/
def edAt (L : Es) (i : Nat) (u v : Nat) : Prop := L[i]? = some (u, v) ∨ L[i]? = some (v, u)

theorem eL_edAt {L : Es} {u v : Nat} : eL L u v ↔ ∃ i, edAt L i u v := by
  unfold eL edAt
  rw [List.mem_iff_getElem?, List.mem_iff_getElem?]
  constructor
  · rintro (⟨i, h⟩ | ⟨i, h⟩)
    · exact ⟨i, .inl h⟩
    · exact ⟨i, .inr h⟩
  · rintro ⟨i, h | h⟩
    · exact .inl ⟨i, h⟩
    · exact .inr ⟨i, h⟩

theorem eL_erase {L : Es} (uq : UQ L) {i u v : Nat} (hi : edAt L i u v) : (∀ p q, eL (L.eraseIdx i) p q ↔ eL L p q ∧ ¬ ((p = u ∧ q = v) ∨ (p = v ∧ q = u))) ∧ UQ (L.eraseIdx i) ∧ (L.eraseIdx i).length + 1 = L.length ∧ ∀ e, e ∈ L.eraseIdx i → e ∈ L := by
  obtain ⟨e, he, hc⟩ : ∃ e, L[i]? = some e ∧ (e = (u, v) ∨ e = (v, u)) := by
    rcases hi with h | h
    · exact ⟨_, h, .inl rfl⟩
    · exact ⟨_, h, .inr rfl⟩
  obtain ⟨hil, hg⟩ := List.getElem?_eq_some_iff.1 he
  have hL : L = L.take i ++ e :: L.drop (i + 1) := by
    rw [← hg]; simp
  have hE : L.eraseIdx i = L.take i ++ L.drop (i + 1) := List.eraseIdx_eq_take_drop_succ ..
  have sub : (L.eraseIdx i).Sublist L := List.eraseIdx_sublist ..
  refine ⟨fun p q => ?_, uq.sublist sub, by rw [List.length_eraseIdx_of_lt hil]; omega, fun e he => sub.subset he⟩
  obtain ⟨A, hA⟩ : ∃ A, A = L.take i := ⟨_, rfl⟩
  obtain ⟨B, hB⟩ : ∃ B, B = L.drop (i + 1) := ⟨_, rfl⟩
  rw [← hA, ← hB] at hL hE
  rw [hE]
  unfold UQ at uq
  rw [hL, List.pairwise_append, List.pairwise_cons] at uq
  obtain ⟨_, ⟨u1, _⟩, u2⟩ := uq
  have off : ∀ f, f ∈ A ++ B → f ≠ (u, v) ∧ f ≠ (v, u) := fun f hf => by
    have : e ≠ f ∧ e ≠ (f.2, f.1) := by
      rcases List.mem_append.1 hf with g | g
      · have := u2 f g e (by simp)
        refine ⟨this.1.symm, fun q => this.2 ?_⟩
        rw [q]
      · exact u1 f g
    constructor
    · intro q
      subst q
      rcases hc with hc | hc
      · exact this.1 hc
      · exact this.2 hc
    · intro q
      subst q
      rcases hc with hc | hc
      · exact this.2 hc
      · exact this.1 hc
  have hm : ∀ f, f ∈ L ↔ f ∈ A ++ B ∨ f = e := fun f => by
    rw [hL]; simp only [List.mem_append, List.mem_cons]
    constructor
    · rintro (g | g | g)
      · exact .inl (.inl g)
      · exact .inr g
      · exact .inl (.inr g)
    · rintro ((g | g) | g)
      · exact .inl g
      · exact .inr (.inr g)
      · exact .inr (.inl g)
  unfold eL
  rw [hm, hm]
  constructor
  · rintro (g | g)
    · have := off _ g
      simp only [ne_eq, Prod.mk.injEq] at this
      exact ⟨.inl (.inl g), fun q => q.elim this.1 this.2⟩
    · have := off _ g
      simp only [ne_eq, Prod.mk.injEq] at this
      refine ⟨.inr (.inl g), fun q => q.elim (fun q => this.2 ⟨q.2, q.1⟩) fun q => this.1 ⟨q.2, q.1⟩⟩
  · rintro ⟨(g | g) | g | g, hn⟩
    · exact .inl g
    · exfalso
      rcases hc with hc | hc <;> rw [hc] at g <;> simp only [Prod.mk.injEq] at g
      · exact hn (.inl g)
      · exact hn (.inr g)
    · exact .inr g
    · exfalso
      rcases hc with hc | hc <;> rw [hc] at g <;> simp only [Prod.mk.injEq] at g
      · exact hn (.inr ⟨g.2, g.1⟩)
      · exact hn (.inl ⟨g.2, g.1⟩)

theorem T_cut (d : LT h a b n L key) (x y : Int) (K : Int → Hp → Prop) (hbad : ¬ (rng n x ∧ rng n y) → K 3 h) (hno : ∀ (u v : Nat) h', x = u → y = v → u < n → v < n → LT h' a b n L key → FrB a b h h' → ¬ eL L u v → K 5 h')
    (hok : ∀ (u v : Nat) h', x = u → y = v → u < n → v < n → u ≠ v → eL L u v → (∀ i, edAt L i u v → LT h' a b n (L.eraseIdx i) key) → FrB a b h h' → K 0 h') : g_lct_Forest_Cut (some ⟨a, 0, none⟩) x y h K := by
  obtain ⟨N, pa, F, fs, lf, he, hk⟩ := id d.ex
  have hn := fs.hn
  have hl := d.len
  refine lCut_spec fs lf x y K hbad (fun u v h2 N2 pa2 F2 hx hy hu hv d2 f2 lf2 sa q => hno u v h2 hx hy hu hv (d.again he hk d2 lf2 sa) f2 fun g => q ((he _ _).2 g)) fun u v h2 N2 pa2 F2 hx hy hu hv huv d2 f2 lf2 e ed ky => hok u v h2 hx hy hu hv huv ((he _ _).1 e) (fun i hi => ?_) f2
  obtain ⟨e1, e2, e3, e4⟩ := eL_erase d.uq hi
  refine ⟨⟨N2, pa2, F2, ?_, lf2, fun p q => ?_, fun w hw => (ky w).trans (hk w hw)⟩, fun e he => d.bd e (e4 e he), e2, by omega⟩
  · have : w64 ((n : Int) - L.length + 1) = (n : Int) - (L.eraseIdx i).length := by
      rw [w64, w64_eq (by omega) (by omega)]; omega
    rw [← this]; exact d2
  · rw [ed, he, e1]

theorem T_copy (d : LT h a b n L key) (K : Option Addr → Hp → Prop) (hK : ∀ h' a' b', LT h' a' b' n L key → LT h' a b n L key → Fr h.size h h' → h.size ≤ a' → h.size ≤ b' → K (some ⟨a', 0, none⟩) h') : g_lct_Forest_Copy (some ⟨a, 0, none⟩) h K := by
  obtain ⟨N, pa, F, fs, lf, he, hk⟩ := id d.ex
  exact lCopy_spec fs K fun h' a' b' d' f' ha hb => hK h' a' b' ⟨⟨N, pa, F, d', lf, he, hk⟩, d.bd, d.uq, d.len⟩ (d.fr f') f' ha hb
end

theorem T_new (n : Int) (h : Hp) (K : Option Addr → Int → Hp → Prop) (hbad : ¬ (0 ≤ n ∧ n ≤ 65536) → K none 2 h)
    (hok : ∀ m : Nat, n = m → m ≤ 65536 → ∀ h' a b, LT h' a b m [] (fun _ => 0) → Fr h.size h h' → h.size ≤ a → h.size ≤ b → K (some ⟨a, 0, none⟩) 0 h') : g_lct_New n h K := by
  refine lNew_spec n h K hbad fun m hm hm2 h' a b N d f ha hb lf hk => hok m hm hm2 h' a b ⟨⟨N, _, _, ?_, lf, fun p q => ?_, hk⟩, fun e he => (by cases he), List.Pairwise.nil, by simp⟩ f ha hb
  · simpa using d
  · unfold Ed eL
    constructor
    · rintro (h | h)
      · have h' : (-1 : Int) = (q : Int) := h
        omega
      · have h' : (-1 : Int) = (p : Int) := h
        omega
    · rintro (h | h) <;> cases h

end Go.Hx
