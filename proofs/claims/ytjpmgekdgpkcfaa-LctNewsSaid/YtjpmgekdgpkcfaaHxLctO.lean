/- Link-cut forests: Dist, Min, Connected, Trees, Key. No condition. -/
import Derived.Test.YtjpmgekdgpkcfaaHxLctM
namespace Go.Hx
set_option linter.unusedSimpArgs false
set_option linter.unusedVariables false

section
variable {h : Hp} {a b n : Nat} {N : NN} {tr : Int}

theorem LF.size {pa : Nat → Int} {l : Tr} {v : Nat} {G : List (Tr × Int)} {r : Tr} {pp : Int} (lf : LF n N pa ((.nd l v r, pp) :: G)) : (N v).size = ((Tr.nd l v r).seq.length : Nat) ∧ (Tr.nd l v r).seq.length ≤ n ∧ ∃ m : Nat, m ∈ (Tr.nd l v r).seq ∧ (N v).best = m ∧ ∀ w, w ∈ (Tr.nd l v r).seq → ¬ bef N w m := by
  obtain ⟨⟨g1, g2, g3⟩, _, _⟩ := lf.ag _ (List.mem_cons_self ..)
  exact ⟨g2, lf.tt.len, g1⟩

theorem lTrees_spec (d : FS h a b n N tr) (K : Int → Hp → Prop) (hK : K tr h) : g_lct_Forest_Trees (some ⟨a, 0, none⟩) h K := by
  unfold g_lct_Forest_Trees
  refine cnd_f rfl (nn_of ?_)
  simp only [add_mk, Nat.zero_add]
  exact ldI_of d.c2 hK

theorem lKey_spec (d : FS h a b n N tr) (x : Int) (K : Int → Hp → Prop) (hK : K (if 0 ≤ x ∧ x < (n : Int) then (N x.toNat).key else 0) h) : g_lct_Forest_Key (some ⟨a, 0, none⟩) x h K := by
  unfold g_lct_Forest_Key
  refine lHas_spec d x _ fun c e => cnd_of (fun c1 => ?_) fun c1 => ?_
  · rw [if_neg fun q => by rw [e.2 q] at c1; cases c1] at hK; exact hK
  · have q := e.1 (by simpa using c1)
    rw [if_pos q] at hK
    obtain ⟨v, rfl⟩ : ∃ v : Nat, x = v := ⟨x.toNat, by omega⟩
    have hv : v < n := by omega
    refine d.nd hv (K := fun a3 => ldI .i64 h ((a3.add (Int.toNat (v : Int) * 9)).add 4) _) ?_
    simp only [add_mk, Nat.zero_add, Int.toNat_natCast] at hK ⊢
    exact ldI_of (by rw [d.cell hv 4 (by omega) (by omega)]; rfl) hK

/-- What a function that looks for a way leaves: the same edges and keys. -/
def Sa (n : Nat) (N N' : NN) (pa pa' : Nat → Int) : Prop := (∀ p q, Ed pa' p q ↔ Ed pa p q) ∧ ∀ w, (N' w).key = (N w).key

theorem lPath_any (d : FS h a b n N tr) {pa : Nat → Int} {F0 : List (Tr × Int)} (lf : LF n N pa F0) (x y : Int) (K : Bool → Hp → Prop)
    (hbad : ¬ ((0 ≤ x ∧ x < (n : Int)) ∧ 0 ≤ y ∧ y < (n : Int)) → K false h)
    (hok : ∀ (u v : Nat) h' N' pa' l G c, x = u → y = v → u < n → v < n → FS h' a b n N' tr → FrB a b h h' → LF n N' pa' ((.nd l v .nil, -1) :: G) → Sa n N N' pa pa' → pa' u = -1 → (c = true ↔ u ∈ (Tr.nd l v .nil).seq) → (c = true → ∃ ys, (Tr.nd l v .nil).seq = u :: ys) → (N' v).rev = false → K c h') : g_lct_Forest_path (some ⟨a, 0, none⟩) x y h K := by
  by_cases g : (0 ≤ x ∧ x < (n : Int)) ∧ 0 ≤ y ∧ y < (n : Int)
  · obtain ⟨u, rfl⟩ : ∃ u : Nat, x = u := ⟨x.toNat, by omega⟩
    obtain ⟨v, rfl⟩ : ∃ v : Nat, y = v := ⟨y.toNat, by omega⟩
    exact path12_spec d lf (by omega) (by omega) K fun h' N' pa' l G c d' f' lf' ed rv ky pu hc hf _ _ => hok u v h' N' pa' l G c rfl rfl (by omega) (by omega) d' f' lf' ⟨ed, ky⟩ pu hc hf rv
  · unfold g_lct_Forest_path
    refine lHas_spec d x _ fun c1 e1 => cnd_of (fun _ => hbad g) fun q1 => lHas_spec d y _ fun c2 e2 => cnd_of (fun _ => hbad g) fun q2 => ?_
    exact absurd ⟨e1.1 (by simpa using q1), e2.1 (by simpa using q2)⟩ g

theorem lDist_spec (d : FS h a b n N tr) {pa : Nat → Int} {F0 : List (Tr × Int)} (lf : LF n N pa F0) (x y : Int) (K : Int → Hp → Prop)
    (hbad : ¬ ((0 ≤ x ∧ x < (n : Int)) ∧ 0 ≤ y ∧ y < (n : Int)) → K (-1) h)
    (hok : ∀ (u v : Nat) h' N' pa' l G, x = u → y = v → u < n → v < n → FS h' a b n N' tr → FrB a b h h' → LF n N' pa' ((.nd l v .nil, -1) :: G) → Sa n N N' pa pa' → pa' u = -1 → (u ∈ (Tr.nd l v .nil).seq → ∃ ys, (Tr.nd l v .nil).seq = u :: ys) → K (if u ∈ (Tr.nd l v .nil).seq then (((Tr.nd l v .nil).seq.length - 1 : Nat) : Int) else -1) h') : g_lct_Forest_Dist (some ⟨a, 0, none⟩) x y h K := by
  have hn := d.hn
  unfold g_lct_Forest_Dist
  refine lPath_any d lf x y _ (fun q => cnd_t rfl (hbad q)) fun u v h' N' pa' l G c hx hy hu hv d' f' lf' sa pu hc hf rv => ?_
  have fin := hok u v h' N' pa' l G hx hy hu hv d' f' lf' sa pu fun q => hf (hc.2 q)
  subst hx hy
  refine cnd_of (fun q => ?_) fun q => ?_
  · rw [if_neg fun g => by rw [hc.2 g] at q; cases q] at fin; exact fin
  · have g := hc.1 (by simpa using q)
    rw [if_pos g] at fin
    obtain ⟨s1, s2, _⟩ := lf'.size
    have s3 : 1 ≤ (Tr.nd l v .nil).seq.length := List.length_pos_of_mem g
    refine d'.nd hv (K := fun a3 => ldI .i64 h' ((a3.add (Int.toNat (v : Int) * 9)).add 6) _) ?_
    simp only [add_mk, Nat.zero_add, Int.toNat_natCast]
    refine ldI_of (by rw [d'.cell hv 6 (by omega) (by omega)]; rfl) ?_
    rw [s1, w64, w64_eq (by omega) (by omega), show (((Tr.nd l v .nil).seq.length : Nat) : Int) - 1 = (((Tr.nd l v .nil).seq.length - 1 : Nat) : Int) by omega]
    exact fin

theorem lMin_spec (d : FS h a b n N tr) {pa : Nat → Int} {F0 : List (Tr × Int)} (lf : LF n N pa F0) (x y : Int) (K : Int → Bool → Hp → Prop)
    (hbad : ¬ ((0 ≤ x ∧ x < (n : Int)) ∧ 0 ≤ y ∧ y < (n : Int)) → K 0 false h)
    (hno : ∀ (u v : Nat) h' N' pa' l G, x = u → y = v → u < n → v < n → FS h' a b n N' tr → FrB a b h h' → LF n N' pa' ((.nd l v .nil, -1) :: G) → Sa n N N' pa pa' → pa' u = -1 → u ∉ (Tr.nd l v .nil).seq → K 0 false h')
    (hok : ∀ (u v m : Nat) h' N' pa' l G, x = u → y = v → u < n → v < n → FS h' a b n N' tr → FrB a b h h' → LF n N' pa' ((.nd l v .nil, -1) :: G) → Sa n N N' pa pa' → pa' u = -1 → (∃ ys, (Tr.nd l v .nil).seq = u :: ys) → m ∈ (Tr.nd l v .nil).seq → (∀ w, w ∈ (Tr.nd l v .nil).seq → ¬ bef N' w m) → K m true h') : g_lct_Forest_Min (some ⟨a, 0, none⟩) x y h K := by
  unfold g_lct_Forest_Min
  refine lPath_any d lf x y _ (fun q => cnd_t rfl (hbad q)) fun u v h' N' pa' l G c hx hy hu hv d' f' lf' sa pu hc hf rv => cnd_of (fun q => ?_) fun q => ?_
  · exact hno u v h' N' pa' l G hx hy hu hv d' f' lf' sa pu fun g => by rw [hc.2 g] at q; cases q
  · obtain ⟨_, _, m, m1, m2, m3⟩ := lf'.size
    have fin := hok u v m h' N' pa' l G hx hy hu hv d' f' lf' sa pu (hf (by simpa using q)) m1 m3
    subst hx hy
    refine d'.nd hv (K := fun a3 => ldI .i64 h' ((a3.add (Int.toNat (v : Int) * 9)).add 5) _) ?_
    simp only [add_mk, Nat.zero_add, Int.toNat_natCast]
    refine ldI_of (by rw [d'.cell hv 5 (by omega) (by omega)]; rfl) ?_
    rw [m2]; exact fin

end

end Go.Hx
