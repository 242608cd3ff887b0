/- Link-cut forests: what a root says about all below it is how many vertices its tree has. No condition. -/
import Derived.Test.YtjpmgekdgpkcfaaHxLctH
import Derived.Test.YtjpmgekdgpkcfaaHxLctO
import Derived.Test.YtjpmgekdgpkcfaaHxLctW
namespace Go.Hx
set_option linter.unusedSimpArgs false
set_option linter.unusedVariables false

/-- All below a vertex, itself too. -/
noncomputable def bl (n : Nat) (pa : Nat → Int) (x : Nat) : List Nat := (List.range n).filter fun z => @decide (Anc pa z x) (Classical.propDecidable _)

theorem bl_mem {n : Nat} {pa : Nat → Int} {x z : Nat} : z ∈ bl n pa x ↔ z < n ∧ Anc pa z x := by
  unfold bl
  rw [List.mem_filter, List.mem_range]
  exact and_congr_right fun _ => @decide_eq_true_iff _ (Classical.propDecidable _)
theorem bl_nodup (n : Nat) (pa : Nat → Int) (x : Nat) : (bl n pa x).Nodup := List.filter_sublist.nodup List.nodup_range

/-- Sub-list by members. -/
theorem nodup_le : ∀ (xs ys : List Nat), xs.Nodup → (∀ u, u ∈ xs → u ∈ ys) → xs.length ≤ ys.length := by
  intro xs
  induction xs with
  | nil => intro ys _ _; simp
  | cons x xs ih =>
    intro ys nd h
    rw [List.nodup_cons] at nd
    have hx : x ∈ ys := h x (by simp)
    have := ih (ys.erase x) nd.2 fun u hu => by
      have hne : u ≠ x := fun e => nd.1 (e ▸ hu)
      rw [List.mem_erase_of_ne hne]
      exact h u (by simp [hu])
    rw [List.length_erase_of_mem hx] at this
    have := List.length_pos_of_mem hx
    simp only [List.length_cons]; omega
theorem nodup_eq {xs ys : List Nat} (h1 : xs.Nodup) (h2 : ys.Nodup) (h : ∀ u, u ∈ xs ↔ u ∈ ys) : xs.length = ys.length :=
  Nat.le_antisymm (nodup_le _ _ h1 fun u hu => (h u).1 hu) (nodup_le _ _ h2 fun u hu => (h u).2 hu)

/-- The sum of a number over those whose parent is x. -/
def sD (pa : Nat → Int) (D : Nat → Nat) (l : List Nat) (x : Nat) : Nat := l.foldr (fun w s => (if pa w = (x : Int) then D w else 0) + s) 0
theorem sD_cons (pa : Nat → Int) (D : Nat → Nat) (w : Nat) (l : List Nat) (x : Nat) : sD pa D (w :: l) x = (if pa w = (x : Int) then D w else 0) + sD pa D l x := rfl
theorem sD_app (pa : Nat → Int) (D : Nat → Nat) (l m : List Nat) (x : Nat) : sD pa D (l ++ m) x = sD pa D l x + sD pa D m x := by
  induction l with
  | nil => simp [sD]
  | cons w l ih => rw [List.cons_append, sD_cons, sD_cons, ih]; omega
theorem sD_erase {pa : Nat → Int} {D : Nat → Nat} {l : List Nat} {w x : Nat} (h : w ∈ l) : sD pa D l x = (if pa w = (x : Int) then D w else 0) + sD pa D (l.erase w) x := by
  induction l with
  | nil => cases h
  | cons y l ih =>
    by_cases e : y = w
    · subst e; rw [List.erase_cons_head, sD_cons]
    · have hw : w ∈ l := by
        rcases List.mem_cons.1 h with q | q
        · exact absurd q.symm e
        · exact q
      rw [List.erase_cons_tail (by simpa using e), sD_cons, sD_cons, ih hw]; omega
theorem sD_same {pa : Nat → Int} {D : Nat → Nat} : ∀ {l m : List Nat} {x : Nat}, l.Nodup → m.Nodup → (∀ u, u ∈ l ↔ u ∈ m) → sD pa D l x = sD pa D m x := by
  intro l
  induction l with
  | nil =>
    intro m x _ _ h
    cases m with
    | nil => rfl
    | cons y m => exact absurd ((h y).2 (by simp)) (by simp)
  | cons w l ih =>
    intro m x h1 h2 h
    rw [List.nodup_cons] at h1
    rw [sD_erase ((h w).1 (by simp)), sD_cons, ih h1.2 (h2.erase w) fun u => ?_]
    rw [h2.mem_erase_iff]
    constructor
    · intro hu
      exact ⟨fun e => h1.1 (e ▸ hu), (h u).1 (by simp [hu])⟩
    · rintro ⟨hne, hu⟩
      rcases List.mem_cons.1 ((h u).2 hu) with q | q
      · exact absurd q hne
      · exact q

/-- The lists of all that are below those whose parent is x. -/
noncomputable def chl (n : Nat) (pa : Nat → Int) (x : Nat) : List Nat → List Nat
  | [] => []
  | w :: l => (if pa w = (x : Int) then bl n pa w else []) ++ chl n pa x l

theorem chl_len {n : Nat} {pa : Nat → Int} {x : Nat} (l : List Nat) : (chl n pa x l).length = sD pa (fun w => (bl n pa w).length) l x := by
  induction l with
  | nil => rfl
  | cons w l ih => rw [sD_cons, chl, List.length_append, ih]; split <;> rfl

theorem chl_mem {n : Nat} {pa : Nat → Int} {x z : Nat} {l : List Nat} : z ∈ chl n pa x l ↔ ∃ w, w ∈ l ∧ pa w = (x : Int) ∧ z ∈ bl n pa w := by
  induction l with
  | nil => simp [chl]
  | cons w l ih =>
    rw [chl, List.mem_append, ih]
    constructor
    · rintro (h | ⟨v, h1, h2⟩)
      · by_cases e : pa w = (x : Int)
        · rw [if_pos e] at h; exact ⟨w, by simp, e, h⟩
        · rw [if_neg e] at h; cases h
      · exact ⟨v, by simp [h1], h2⟩
    · rintro ⟨v, h1, h2, h3⟩
      rcases List.mem_cons.1 h1 with rfl | h1
      · left; rw [if_pos h2]; exact h3
      · exact .inr ⟨v, h1, h2, h3⟩

theorem Anc_cmp {pa : Nat → Int} {z a b : Nat} (h : Anc pa z a) (g : Anc pa z b) : Anc pa a b ∨ Anc pa b a := by
  induction h with
  | refl => exact .inl g
  | @up p q r e k ih =>
    cases g with
    | refl => exact .inr (.up e k)
    | up e2 k2 =>
      rw [e] at e2
      have := Int.ofNat.inj e2
      subst this
      exact ih k2

theorem Anc_dep {pa : Nat → Int} {dep : Nat → Nat} (hd : ∀ x y : Nat, pa x = y → dep y < dep x) {z a : Nat} (h : Anc pa z a) : dep a ≤ dep z := by
  induction h with
  | refl => exact Nat.le_refl _
  | up e _ ih => have := hd _ _ e; omega

/-- Two children of one vertex have nothing below them in common. -/
theorem child_one {pa : Nat → Int} (ac : Acy pa) {z a b x : Nat} (h1 : Anc pa z a) (h2 : Anc pa z b) (ha : pa a = (x : Int)) (hb : pa b = (x : Int)) : a = b := by
  obtain ⟨dep, hd⟩ := ac
  have one : ∀ {a b : Nat}, Anc pa a b → pa a = (x : Int) → pa b = (x : Int) → a = b := fun {a b} h ha hb => by
    cases h with
    | refl => rfl
    | up e k =>
      rw [ha] at e
      have := Int.ofNat.inj e
      subst this
      have := Anc_dep hd k
      have := hd _ _ hb
      omega
  rcases Anc_cmp h1 h2 with h | h
  · exact one h ha hb
  · exact (one h hb ha).symm

theorem chl_nodup {n : Nat} {pa : Nat → Int} (ac : Acy pa) {x : Nat} {l : List Nat} (nd : l.Nodup) : (chl n pa x l).Nodup := by
  induction l with
  | nil => simp [chl]
  | cons w l ih =>
    rw [List.nodup_cons] at nd
    rw [chl, List.nodup_append]
    refine ⟨?_, ih nd.2, fun z hz y hy e => ?_⟩
    · split
      · exact bl_nodup _ _ _
      · simp
    · subst e
      obtain ⟨v, h1, h2, h3⟩ := chl_mem.1 hy
      by_cases q : pa w = (x : Int)
      · rw [if_pos q] at hz
        have := child_one ac (bl_mem.1 hz).2 (bl_mem.1 h3).2 q h2
        exact nd.1 (this ▸ h1)
      · rw [if_neg q] at hz; cases hz

/-- A vertex, and all below its children. -/
theorem bl_rec {n : Nat} {pa : Nat → Int} (ac : Acy pa) (hb : ∀ w y : Nat, w < n → pa w = y → y < n) {x : Nat} (hx : x < n) {l : List Nat} (nd : l.Nodup) (hl : ∀ w, w ∈ l ↔ w < n) : (bl n pa x).length = 1 + sD pa (fun w => (bl n pa w).length) l x := by
  rw [← chl_len]
  have key : ∀ {z y : Nat}, Anc pa z y → z < n → y < n := fun {z y} h => by
    induction h with
    | refl => exact id
    | up e _ ih => exact fun hz => ih (hb _ _ hz e)
  have nx : x ∉ chl n pa x l := fun h => by
    obtain ⟨v, h1, h2, h3⟩ := chl_mem.1 h
    obtain ⟨dep, hd⟩ := ac
    have := Anc_dep hd (bl_mem.1 h3).2
    have := hd _ _ h2
    omega
  have : (bl n pa x).length = (x :: chl n pa x l).length := nodup_eq (bl_nodup _ _ _) (by rw [List.nodup_cons]; exact ⟨nx, chl_nodup ac nd⟩) fun z => by
    rw [bl_mem, List.mem_cons, chl_mem]
    constructor
    · rintro ⟨hz, h⟩
      have : ∀ {z y : Nat}, Anc pa z y → y = x → z < n → z = x ∨ ∃ w, w < n ∧ pa w = (x : Int) ∧ Anc pa z w := by
        intro z y h
        induction h with
        | refl => exact fun e _ => .inl e
        | @up p q r e k ih =>
          intro er hp
          rcases ih er (hb _ _ hp e) with g | ⟨w, g1, g2, g3⟩
          · exact .inr ⟨p, hp, by rw [e, g], .refl _⟩
          · exact .inr ⟨w, g1, g2, .up e g3⟩
      rcases this h rfl hz with g | ⟨w, g1, g2, g3⟩
      · exact .inl g
      · exact .inr ⟨w, (hl w).2 g1, g2, bl_mem.2 ⟨hz, g3⟩⟩
    · rintro (rfl | ⟨w, g1, g2, g3⟩)
      · exact ⟨hx, .refl _⟩
      · obtain ⟨hz, g⟩ := bl_mem.1 g3
        refine ⟨hz, ?_⟩
        have tr : ∀ {z w : Nat}, Anc pa z w → pa w = (x : Int) → Anc pa z x := by
          intro z w h
          induction h with
          | refl => exact fun e => .up e (.refl _)
          | up e _ ih => exact fun e2 => .up e (ih e2)
        exact tr g g2
  rw [this, List.length_cons]; omega

/-- The first of a list. -/
def Dh (D : Nat → Nat) : List Nat → Nat
  | [] => 0
  | x :: _ => D x
/-- The one behind x. -/
def nv (D : Nat → Nat) : List Nat → Nat → Nat
  | [], _ => 0
  | y :: ys, x => (if y = x then Dh D ys else 0) + nv D ys x
theorem nv_out {D : Nat → Nat} {xs : List Nat} {x : Nat} (h : x ∉ xs) : nv D xs x = 0 := by
  induction xs with
  | nil => rfl
  | cons y ys ih =>
    simp only [List.mem_cons, not_or] at h
    rw [nv, ih h.2, if_neg (fun e => h.1 e.symm)]
theorem nv_at {D : Nat → Nat} {l r : List Nat} {x : Nat} (nd : (l ++ x :: r).Nodup) : nv D (l ++ x :: r) x = Dh D r := by
  induction l with
  | nil =>
    simp only [List.nil_append, List.nodup_cons] at nd ⊢
    rw [nv, nv_out nd.1, if_pos rfl]; rfl
  | cons y l ih =>
    simp only [List.cons_append, List.nodup_cons] at nd ⊢
    rw [nv, ih nd.2, if_neg (fun e => nd.1 (by simp [e]))]; omega

theorem sD_chn {pa : Nat → Int} {D : Nat → Nat} {p : Int} {xs : List Nat} {x : Nat} (c : chn pa p xs) : sD pa D xs x = (if p = (x : Int) then Dh D xs else 0) + nv D xs x := by
  induction xs generalizing p with
  | nil => simp [sD, Dh, nv]
  | cons y ys ih =>
    rw [sD_cons, ih c.2, nv, c.1]
    have : (if ((y : Nat) : Int) = (x : Int) then Dh D ys else 0) = if y = x then Dh D ys else 0 := by
      by_cases e : y = x
      · rw [if_pos e, if_pos (by omega)]
      · rw [if_neg e, if_neg (by omega)]
    rw [this]
    show (if p = (x : Int) then D y else 0) + _ = (if p = (x : Int) then D y else 0) + _
    rfl

/-- The trees that hang on x. -/
def hD (D : Nat → Nat) (F : List (Tr × Int)) (x : Nat) : Nat := F.foldr (fun f s => (if f.2 = (x : Int) then Dh D f.1.seq else 0) + s) 0
theorem hD_cons (D : Nat → Nat) (f : Tr × Int) (F : List (Tr × Int)) (x : Nat) : hD D (f :: F) x = (if f.2 = (x : Int) then Dh D f.1.seq else 0) + hD D F x := rfl

theorem sD_trees {pa : Nat → Int} {D : Nat → Nat} {F : List (Tr × Int)} {x : Nat} (c : ∀ f, f ∈ F → chn pa f.2 f.1.seq) (hx : ∀ f, f ∈ F → x ∉ f.1.seq) : sD pa D (F.flatMap fun f => f.1.seq) x = hD D F x := by
  induction F with
  | nil => rfl
  | cons f F ih =>
    rw [List.flatMap_cons, sD_app, ih (fun g hg => c g (by simp [hg])) (fun g hg => hx g (by simp [hg])), sD_chn (c f (by simp)), nv_out (hx f (by simp)), hD_cons]
    omega

theorem w64_add {a a' b b' : Int} (h : w64 a = w64 a') (g : w64 b = w64 b') : w64 (a + b) = w64 (a' + b') := by
  rw [← w64_l a b, ← w64_r, h, g, w64_r, w64_l]

theorem hsum_hD {N : NN} {D : Nat → Nat} {F : List (Tr × Int)} {x : Nat} (h : ∀ f, f ∈ F → f.2 = (x : Int) → (N f.1.rt.toNat).all = w64 (Dh D f.1.seq : Nat)) : w64 (hsum N F x) = w64 (hD D F x : Nat) := by
  induction F with
  | nil => rfl
  | cons f F ih =>
    have ih := ih fun g hg => h g (by simp [hg])
    rw [hsum_cons, hD_cons]
    by_cases e : f.2 = (x : Int)
    · have := h f (by simp) e
      rw [if_pos e, if_pos e, this, Int.natCast_add]
      exact w64_add (w64_idem _) ih
    · rw [if_neg e, if_neg e]
      simp only [Int.zero_add, Nat.zero_add]
      exact ih

theorem LF.below {n : Nat} {N : NN} {pa : Nat → Int} {F : List (Tr × Int)} (d : LF n N pa F) (w y : Nat) (hw : w < n) (e : pa w = y) : y < n := by
  obtain ⟨f, hf, hm⟩ := (d.cov w).1 hw
  rcases chn_up (d.pc f hf) hm e with q | q
  · rcases d.pp f hf with g | ⟨x, g, hx, _⟩
    · omega
    · have : x = y := by omega
      omega
  · exact (d.cov y).2 ⟨f, hf, q⟩

theorem LF.count {n : Nat} {N : NN} {pa : Nat → Int} {F : List (Tr × Int)} (d : LF n N pa F) : ∀ f, f ∈ F → (N f.1.rt.toNat).all = w64 (Dh (fun w => (bl n pa w).length) f.1.seq : Nat) := by
  obtain ⟨D, hD0⟩ : ∃ D : Nat → Nat, D = fun w => (bl n pa w).length := ⟨_, rfl⟩
  rw [← hD0]
  have rec' := fun {x : Nat} (hx : x < n) => bl_rec (pa := pa) d.dp d.below hx d.nd fun w => by
    rw [List.mem_flatMap]; exact (d.cov w).symm
  rw [← hD0] at rec'
  obtain ⟨dep, hd⟩ := id d.dp
  obtain ⟨M, hM⟩ : ∃ M, ∀ u, u < n → dep u < M := by
    have : ∀ n : Nat, ∃ M, ∀ u, u < n → dep u < M := by
      intro n
      induction n with
      | zero => exact ⟨0, fun u h => by omega⟩
      | succ n ih =>
        obtain ⟨M, h⟩ := ih
        refine ⟨max M (dep n + 1), fun u hu => ?_⟩
        by_cases e : u = n
        · subst e; omega
        · have := h u (by omega); omega
    exact this n
  have main : ∀ k : Nat, ∀ f, f ∈ F → (∀ y, f.1.seq.head? = some y → M ≤ dep y + k) → (N f.1.rt.toNat).all = w64 (Dh D f.1.seq : Nat) := by
    intro k
    induction k with
    | zero =>
      intro f hf hk
      have hne := d.ne f hf
      cases hq : f.1.seq with
      | nil => have := (LF.rt_in hne).1; rw [hq] at this; cases this
      | cons y ys =>
        have := hk y (by rw [hq]; rfl)
        have := hM y ((d.cov y).2 ⟨f, hf, by rw [hq]; simp⟩)
        omega
    | succ k ih =>
      intro f hf hk
      obtain ⟨A, B, hAB⟩ := List.append_of_mem hf
      have d1 : LF n N pa (f :: (A ++ B)) := d.perm (by rw [hAB]; exact List.perm_middle)
      have hG : ∀ g, g ∈ A ++ B → g ∈ F := fun g hg => by rw [hAB]; simp at hg ⊢; rcases hg with h | h <;> simp [h]
      have rec1 := fun {x : Nat} (hx : x < n) => bl_rec (pa := pa) d1.dp d1.below hx d1.nd fun w => by
        rw [List.mem_flatMap]; exact (d1.cov w).symm
      rw [← hD0] at rec1
      rw [LF.all_root (d.ne f hf) (d.ag f hf)]
      have cf := d.pc f hf
      have nf : f.1.seq.Nodup := by
        have := d1.nd
        rw [List.flatMap_cons, List.nodup_append] at this
        exact this.1
      -- every suffix
      have suf : ∀ r l, f.1.seq = l ++ r → w64 (sumH N r) = w64 (Dh D r : Nat) := by
        intro r
        induction r with
        | nil => intro l _; rfl
        | cons x r ihr =>
          intro l e
          have h1 := ihr (l ++ [x]) (by rw [e]; simp)
          have hxf : x ∈ f.1.seq := by rw [e]; simp
          have hx : x < n := (d.cov x).2 ⟨f, hf, hxf⟩
          have hxo : ∀ g, g ∈ A ++ B → x ∉ g.1.seq := fun g hg q => d1.disj hg x hxf q
          have r1 := rec1 hx
          rw [List.flatMap_cons, sD_app, sD_chn cf, sD_trees (fun g hg => d.pc g (hG g hg)) hxo] at r1
          have nx : ¬ f.2 = (x : Int) := fun q => by
            rcases d.pp f hf with g | ⟨y, g, _, hy⟩
            · omega
            · have : y = x := by omega
              subst this; exact hy hxf
          rw [if_neg nx, e, nv_at (by rw [← e]; exact nf)] at r1
          have hg0 := d1.hg x hx
          rw [hsum_cons, if_neg nx] at hg0
          have hh := hsum_hD (N := N) (D := D) (F := A ++ B) (x := x) fun g hg eg => ih g (hG g hg) fun y hy => by
            -- the head of g is deeper
            have cg := d.pc g (hG g hg)
            cases hq : g.1.seq with
            | nil => rw [hq] at hy; cases hy
            | cons z zs =>
              rw [hq] at hy cg
              simp only [List.head?_cons, Option.some.injEq] at hy
              subst hy
              have d1' := hd z x (cg.1.trans eg)
              -- the head of f is not deeper than x
              cases hl : l with
              | nil =>
                have := hk x (by rw [e, hl]; rfl)
                omega
              | cons y0 l0 =>
                have := hk y0 (by rw [e, hl]; rfl)
                have cf' := cf
                rw [e, hl] at cf'
                have := LF.chn_dep cf'.2 hd rfl (show x ∈ l0 ++ x :: r by simp)
                omega
          show w64 (1 + (N x).hang + sumH N r) = w64 (D x : Nat)
          have hDx : D x = (bl n pa x).length := by rw [hD0]
          rw [← hDx] at r1
          rw [Int.zero_add, hh] at hg0
          have r2 : ((D x : Nat) : Int) = 1 + (hD D (A ++ B) x : Nat) + (Dh D r : Nat) := by omega
          rw [r2]
          exact w64_add (w64_add rfl (by rw [hg0, w64_idem])) h1
      exact suf f.1.seq [] rfl
  intro f hf
  exact main M f hf fun y _ => by omega

theorem Cn_of_Anc {pa : Nat → Int} {z x : Nat} (h : Anc pa z x) : Cn (Ed pa) x z := by
  induction h with
  | refl => exact .refl _
  | up e _ ih => exact ih.trans (Cn.one (.inr e))

section
variable {h : Hp} {a b n : Nat} {N : NN} {tr : Int}

theorem lSize_spec (d : FS h a b n N tr) {pa : Nat → Int} {F0 : List (Tr × Int)} (lf : LF n N pa F0) (x : Int) (K : Int → Hp → Prop) (hbad : ¬ (0 ≤ x ∧ x < (n : Int)) → K 0 h)
    (hok : ∀ (v : Nat) h' N' F' (M : List Nat), x = v → v < n → FS h' a b n N' tr → FrB a b h h' → LF n N' pa F' → (∀ w, (N' w).key = (N w).key) → M.Nodup → (∀ z, z ∈ M ↔ z < n ∧ Cn (Ed pa) v z) → K (M.length : Nat) h') : g_lct_Forest_Size (some ⟨a, 0, none⟩) x h K := by
  have hn := d.hn
  unfold g_lct_Forest_Size
  refine lHas_spec d x _ fun c1 e1 => cnd_of (fun c => hbad fun q => by rw [e1.2 q] at c; cases c) fun c => ?_
  have hx := e1.1 (by simpa using c)
  obtain ⟨v, rfl⟩ : ∃ v : Nat, x = v := ⟨x.toNat, by omega⟩
  have hv : v < n := by omega
  refine access_spec d lf hv _ fun h2 N2 z l G d2 f2 lf2 rv2 ky2 old2 _ => ?_
  refine d2.nd hv (K := fun a7 => ldI .i64 h2 ((a7.add (Int.toNat (v : Int) * 9)).add 8) _) ?_
  simp only [add_mk, Nat.zero_add, Int.toNat_natCast]
  refine ldI_of (by rw [d2.cell hv 8 (by omega) (by omega)]; rfl) ?_
  have cnt := lf2.count _ (List.mem_cons_self ..)
  simp only [Tr.rt, Int.toNat_natCast] at cnt
  have hc := lf2.pc _ (List.mem_cons_self ..)
  have hvT : v ∈ (Tr.nd l v .nil).seq := by simp [Tr.seq]
  cases hq : (Tr.nd l v .nil).seq with
  | nil => rw [hq] at hvT; cases hvT
  | cons r rs =>
    rw [hq] at cnt
    simp only [hq] at hc
    simp only [Dh] at cnt
    have len : (bl n pa r).length ≤ n := nodup_len n _ (bl_nodup _ _ _) fun u hu => (bl_mem.1 hu).1
    rw [cnt, w64, w64_eq (by omega) (by omega)]
    have rv : Cn (Ed pa) v r := lf2.Cn hvT (by rw [hq]; simp)
    refine hok v h2 N2 _ (bl n pa r) rfl hv d2 f2 lf2 ky2 (bl_nodup _ _ _) fun z => ?_
    rw [bl_mem]
    exact and_congr_right fun _ => ⟨fun g => rv.trans (Cn_of_Anc g), fun g => Cn_Anc hc.1 (rv.symm.trans g)⟩

end

end Go.Hx
