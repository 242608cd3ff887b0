/- Link-cut forests: another root. Plain; no program. No condition. -/
import Derived.Test.YtjpmgekdgpkcfaaHxLctG
namespace Go.Hx
set_option linter.unusedSimpArgs false
set_option linter.unusedVariables false

/-- The one before in a list. -/
def prd : Int → List Nat → Nat → Int
  | p, [], _ => p
  | p, x :: xs, w => if w = x then p else prd x xs w

/-- Two come one after the other in a list. -/
def con2 (xs : List Nat) (a b : Nat) : Prop := ∃ l r, xs = l ++ a :: b :: r

theorem con2_rev {xs : List Nat} {a b : Nat} : con2 xs.reverse a b ↔ con2 xs b a := by
  have one : ∀ {xs : List Nat} {a b : Nat}, con2 xs a b → con2 xs.reverse b a := by
    rintro xs a b ⟨l, r, rfl⟩
    exact ⟨r.reverse, l.reverse, by simp⟩
  exact ⟨fun h => by have := one h; rwa [List.reverse_reverse] at this, one⟩

theorem prd_con2 {xs : List Nat} {p : Int} {w : Nat} (nd : xs.Nodup) (hw : w ∈ xs) {y : Nat} : prd p xs w = (y : Int) ↔ (p = y ∧ xs.head? = some w) ∨ con2 xs y w := by
  induction xs generalizing p with
  | nil => cases hw
  | cons x xs ih =>
    rw [List.nodup_cons] at nd
    unfold prd
    by_cases e : w = x
    · subst e
      rw [if_pos rfl]
      constructor
      · intro h; exact .inl ⟨h, rfl⟩
      · rintro (⟨h, _⟩ | ⟨l, r, h⟩)
        · exact h
        · exfalso
          cases l with
          | nil =>
            simp only [List.nil_append, List.cons.injEq] at h
            obtain ⟨rfl, rfl⟩ := h
            exact nd.1 (by simp)
          | cons z l =>
            simp only [List.cons_append, List.cons.injEq] at h
            obtain ⟨rfl, rfl⟩ := h
            exact nd.1 (by simp)
    · rw [if_neg e]
      have hw' : w ∈ xs := by
        rcases List.mem_cons.1 hw with q | q
        · exact absurd q e
        · exact q
      rw [ih nd.2 hw']
      constructor
      · rintro (⟨h, g⟩ | ⟨l, r, rfl⟩)
        · right
          cases xs with
          | nil => cases g
          | cons z xs =>
            simp only [List.head?_cons, Option.some.injEq] at g
            subst g
            obtain rfl : x = y := by omega
            exact ⟨[], xs, rfl⟩
        · exact .inr ⟨x :: l, r, rfl⟩
      · rintro (⟨_, g⟩ | ⟨l, r, h⟩)
        · simp only [List.head?_cons, Option.some.injEq] at g; exact absurd g.symm e
        · cases l with
          | nil =>
            simp only [List.nil_append, List.cons.injEq] at h
            obtain ⟨rfl, rfl⟩ := h
            exact .inl ⟨rfl, rfl⟩
          | cons z l =>
            simp only [List.cons_append, List.cons.injEq] at h
            obtain ⟨rfl, rfl⟩ := h
            exact .inr ⟨l, r, rfl⟩

theorem chn_prd {f : Nat → Int} {p : Int} {xs : List Nat} (nd : xs.Nodup) : chn f p xs ↔ ∀ w, w ∈ xs → f w = prd p xs w := by
  induction xs generalizing p with
  | nil => exact ⟨fun _ w hw => (by cases hw), fun _ => trivial⟩
  | cons x xs ih =>
    rw [List.nodup_cons] at nd
    simp only [chn, ih nd.2]
    constructor
    · rintro ⟨h1, h2⟩ w hw
      unfold prd
      by_cases e : w = x
      · subst e; rw [if_pos rfl]; exact h1
      · rw [if_neg e]
        rcases List.mem_cons.1 hw with q | q
        · exact absurd q e
        · exact h2 w q
    · intro h
      refine ⟨by have := h x (by simp); unfold prd at this; rwa [if_pos rfl] at this, fun w hw => ?_⟩
      have := h w (by simp [hw])
      unfold prd at this
      rwa [if_neg (show ¬ w = x from fun e => nd.1 (e ▸ hw))] at this

/-- Parents after a list is put otherwise. -/
def evp (pa : Nat → Int) (xs : List Nat) : Nat → Int := fun w => if w ∈ xs then prd (-1) xs w else pa w

theorem evp_chn {pa : Nat → Int} {xs : List Nat} (nd : xs.Nodup) : chn (evp pa xs) (-1) xs := by
  rw [chn_prd nd]
  intro w hw
  unfold evp; rw [if_pos hw]

theorem chn_congr {f g : Nat → Int} {p : Int} {xs : List Nat} (h : ∀ w, w ∈ xs → f w = g w) (c : chn g p xs) : chn f p xs := by
  induction xs generalizing p with
  | nil => trivial
  | cons x xs ih => exact ⟨by rw [h x (by simp)]; exact c.1, ih (fun w hw => h w (by simp [hw])) c.2⟩

/-- Two vertices are joined by an edge. -/
def Ed (pa : Nat → Int) (u w : Nat) : Prop := pa u = (w : Int) ∨ pa w = (u : Int)

/-- The edges stay when a path from a root is turned. -/
theorem evp_Ed {pa : Nat → Int} {xs : List Nat} (nd : xs.Nodup) (c : chn pa (-1) xs.reverse) (u w : Nat) : Ed (evp pa xs) u w ↔ Ed pa u w := by
  have nr : xs.reverse.Nodup := (List.reverse_perm xs).nodup_iff.2 nd
  have pa_on : ∀ x y : Nat, x ∈ xs → (pa x = (y : Int) ↔ con2 xs x y) := fun x y hx => by
    rw [(chn_prd nr).1 c x (by simpa using hx), prd_con2 nr (by simpa using hx), con2_rev]
    constructor
    · rintro (⟨h, _⟩ | h)
      · omega
      · exact h
    · exact .inr
  have ev_on : ∀ x y : Nat, x ∈ xs → (evp pa xs x = (y : Int) ↔ con2 xs y x) := fun x y hx => by
    unfold evp
    rw [if_pos hx, prd_con2 nd hx]
    constructor
    · rintro (⟨h, _⟩ | h)
      · omega
      · exact h
    · exact .inr
  have ev_off : ∀ x, x ∉ xs → evp pa xs x = pa x := fun x hx => by unfold evp; rw [if_neg hx]
  have mem1 : ∀ {x y}, con2 xs x y → x ∈ xs ∧ y ∈ xs := fun {x y} ⟨l, r, e⟩ => by rw [e]; simp
  unfold Ed
  by_cases hu : u ∈ xs
  · by_cases hw : w ∈ xs
    · rw [pa_on u w hu, pa_on w u hw, ev_on u w hu, ev_on w u hw]
      exact Or.comm
    · have no : ∀ x y, x = w ∨ y = w → ¬ con2 xs x y := fun x y h g => by
        obtain ⟨g1, g2⟩ := mem1 g
        rcases h with rfl | rfl
        · exact hw g1
        · exact hw g2
      rw [pa_on u w hu, ev_on u w hu, ev_off w hw]
      exact or_congr (iff_of_false (no w u (.inl rfl)) (no u w (.inr rfl))) Iff.rfl
  · by_cases hw : w ∈ xs
    · have no : ∀ x y, x = u ∨ y = u → ¬ con2 xs x y := fun x y h g => by
        obtain ⟨g1, g2⟩ := mem1 g
        rcases h with rfl | rfl
        · exact hu g1
        · exact hu g2
      rw [pa_on w u hw, ev_on w u hw, ev_off u hu]
      exact or_congr Iff.rfl (iff_of_false (no u w (.inl rfl)) (no w u (.inr rfl)))
    · rw [ev_off u hu, ev_off w hw]

/-- Where a number is in a list. -/
def idxN : List Nat → Nat → Nat
  | [], _ => 0
  | x :: xs, w => if w = x then 0 else idxN xs w + 1
theorem idxN_app {l r : List Nat} {w : Nat} (h : w ∉ l) : idxN (l ++ w :: r) w = l.length := by
  induction l with
  | nil => simp [idxN]
  | cons x l ih =>
    simp only [List.mem_cons, not_or] at h
    show (if w = x then 0 else idxN (l ++ w :: r) w + 1) = l.length + 1
    rw [if_neg h.1, ih h.2]
theorem idxN_lt {l : List Nat} {w : Nat} (h : w ∈ l) : idxN l w < l.length := by
  induction l with
  | nil => cases h
  | cons x l ih =>
    show (if w = x then 0 else idxN l w + 1) < l.length + 1
    by_cases e : w = x
    · rw [if_pos e]; omega
    · rw [if_neg e]
      rcases List.mem_cons.1 h with q | q
      · exact absurd q e
      · have := ih q; omega

theorem evp_dep {pa : Nat → Int} {xs : List Nat} (nd : xs.Nodup) (h : ∃ dep : Nat → Nat, ∀ x y : Nat, pa x = y → dep y < dep x) : ∃ dep : Nat → Nat, ∀ x y : Nat, evp pa xs x = y → dep y < dep x := by
  obtain ⟨dep, hd⟩ := h
  refine ⟨fun w => if w ∈ xs then idxN xs w else dep w + xs.length, fun x y e => ?_⟩
  by_cases hx : x ∈ xs
  · unfold evp at e
    rw [if_pos hx, prd_con2 nd hx] at e
    rcases e with ⟨e, _⟩ | ⟨l, r, e⟩
    · omega
    · have hy : y ∈ xs := by rw [e]; simp
      simp only [if_pos hx, if_pos hy]
      have nd' := nd
      rw [e, List.nodup_append, List.nodup_cons, List.nodup_cons] at nd'
      have yl : y ∉ l := fun q => nd'.2.2 y q y (by simp) rfl
      have xl : x ∉ l := fun q => nd'.2.2 x q x (by simp) rfl
      have yx : y ≠ x := fun q => nd'.2.1.1 (by simp [q])
      have i1 : idxN xs y = l.length := by rw [e]; exact idxN_app yl
      have i2 : idxN xs x = l.length + 1 := by
        have : xs = (l ++ [y]) ++ x :: r := by rw [e]; simp
        rw [this, idxN_app (by simp only [List.mem_append, List.mem_singleton, not_or]; exact ⟨xl, Ne.symm yx⟩)]; simp
      omega
  · have e' : pa x = y := by unfold evp at e; rwa [if_neg hx] at e
    have := hd x y e'
    simp only [if_neg hx]
    by_cases hy : y ∈ xs
    · simp only [if_pos hy]
      have := idxN_lt hy
      omega
    · simp only [if_neg hy]; omega

/-- A tree of a root, turned. -/
theorem LF.turn {n : Nat} {N N' : NN} {pa : Nat → Int} {T T' : Tr} {G : List (Tr × Int)} (d : LF n N pa ((T, -1) :: G)) (t : TT n N' T' (-1)) (hs : T'.seq = T.seq.reverse) (o : Out N N' T.seq) : LF n N' (evp pa T'.seq) ((T', -1) :: G) ∧ ∀ u w, Ed (evp pa T'.seq) u w ↔ Ed pa u w := by
  have oG : ∀ g, g ∈ G → ∀ u, u ∈ g.1.seq → N' u = N u := fun g hg u hu => o.out u fun q => d.disj hg u q hu
  have hT : T ≠ .nil := d.ne _ (List.mem_cons_self ..)
  have mem : ∀ u, u ∈ T'.seq ↔ u ∈ T.seq := fun u => by rw [hs, List.mem_reverse]
  have hT' : T' ≠ .nil := fun q => by
    have h1 := (LF.rt_in hT).1
    rw [← mem, q] at h1; cases h1
  have hm : ∀ g, g ∈ G → g ∈ (T, (-1 : Int)) :: G := fun g hg => List.mem_cons_of_mem _ hg
  have sG : ∀ g, g ∈ G → ∀ u, u ∈ g.1.seq → sam N N' u ∧ sag N N' u := fun g hg u hu => by
    rw [sam, sag, oG g hg u hu]; exact ⟨⟨rfl, rfl, rfl, rfl⟩, rfl, rfl, rfl, rfl, rfl⟩
  have pm : T'.seq.Perm T.seq := by rw [hs]; exact List.reverse_perm _
  refine ⟨⟨?_, ?_, ?_, ?_, ?_, fun u => ?_, fun x hx => ?_, ?_, evp_dep t.nd d.dp⟩, fun u w => evp_Ed t.nd (by rw [hs, List.reverse_reverse]; exact d.pc _ (List.mem_cons_self ..)) u w⟩
  · intro f hf
    rcases List.mem_cons.1 hf with rfl | hf
    · exact t.rs
    · exact (d.rs f (hm f hf)).congr fun u hu => (sG f hf u hu).1
  · intro f hf
    rcases List.mem_cons.1 hf with rfl | hf
    · exact t.ag
    · exact (d.ag f (hm f hf)).congr fun u hu => (sG f hf u hu).2
  · intro f hf
    rcases List.mem_cons.1 hf with rfl | hf
    · exact hT'
    · exact d.ne f (hm f hf)
  · intro f hf
    rcases List.mem_cons.1 hf with rfl | hf
    · exact .inl rfl
    · exact d.pp f (hm f hf)
  · have := d.nd
    rw [List.flatMap_cons] at this ⊢
    exact (pm.append_right _).nodup_iff.2 this
  · refine (d.cov u).trans ⟨fun ⟨f, hf, hu⟩ => ?_, fun ⟨f, hf, hu⟩ => ?_⟩
    · rcases List.mem_cons.1 hf with rfl | hf
      · exact ⟨(T', -1), List.mem_cons_self .., (mem u).2 hu⟩
      · exact ⟨f, List.mem_cons_of_mem _ hf, hu⟩
    · rcases List.mem_cons.1 hf with rfl | hf
      · exact ⟨(T, -1), List.mem_cons_self .., (mem u).1 hu⟩
      · exact ⟨f, List.mem_cons_of_mem _ hf, hu⟩
  · rw [o.hang, d.hg x hx]
    congr 1
    rw [hsum_cons, hsum_cons]
    have e1 : (N' T'.rt.toNat).all = (N T.rt.toNat).all := by
      rw [LF.all_root hT' t.ag, LF.all_root hT (d.ag _ (List.mem_cons_self ..)), sumH_perm pm, sumH_congr fun x _ => o.hang x]
    have e2 : hsum N' G x = hsum N G x := hsum_congr fun g hg => by
      rw [oG g hg _ (LF.rt_in (d.ne g (hm g hg))).1]
    simp only [e1, e2]
  · intro f hf
    rcases List.mem_cons.1 hf with rfl | hf
    · exact evp_chn t.nd
    · refine chn_congr (fun w hw => ?_) (d.pc f (hm f hf))
      unfold evp
      rw [if_neg]
      intro q
      exact d.disj hf w ((mem w).1 q) hw

end Go.Hx
