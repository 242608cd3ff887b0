/- Link-cut forests over the abstract heap: nodes, and the small functions. No condition. -/
import Derived.Test.YtjpmgekdgpkcfaaHxDefs
import Derived.Test.YtjpmgekdgpkcfaaHxLctV
namespace Go.Hx
set_option linter.unusedSimpArgs false
set_option linter.unusedVariables false

def ndC (x : Nd) : List Value := [.int .i64 x.up, .int .i64 x.k0, .int .i64 x.k1, .bool x.rev, .int .i64 x.key, .int .i64 x.best, .int .i64 x.size, .int .i64 x.hang, .int .i64 x.all]
theorem ndC_len (x : Nd) : (ndC x).length = 9 := rfl

def flat9 (N : NN) (n : Nat) : List Value := (List.range n).flatMap fun v => ndC (N v)
theorem flat9_len (N : NN) (n : Nat) : (flat9 N n).length = n * 9 := by
  induction n with
  | zero => rfl
  | succ n ih => unfold flat9 at *; rw [flatMap_succ, List.length_append, ih, ndC_len]; omega
theorem flat9_succ (N : NN) (n : Nat) : flat9 N (n + 1) = flat9 N n ++ ndC (N n) := flatMap_succ _ _
theorem flat9_get (N : NN) {n v j : Nat} (hv : v < n) (hj : j < 9) : (flat9 N n)[v * 9 + j]? = (ndC (N v))[j]? := by
  induction n with
  | zero => omega
  | succ n ih =>
    rw [flat9_succ]
    by_cases h : v < n
    · rw [List.getElem?_append_left (by rw [flat9_len]; omega), ih h]
    · obtain rfl : v = n := by omega
      rw [List.getElem?_append_right (by rw [flat9_len]; omega), flat9_len, show v * 9 + j - v * 9 = j by omega]
theorem flat9_congr {N N' : NN} {n : Nat} (h : ∀ u, u < n → N' u = N u) : flat9 N' n = flat9 N n := by
  induction n with
  | zero => rfl
  | succ n ih => rw [flat9_succ, flat9_succ, ih fun u hu => h u (by omega), h n (by omega)]
theorem flat9_set {N N' : NN} {n v j : Nat} {x : Value} (hv : v < n) (hj : j < 9) (hN : ∀ u, u ≠ v → N' u = N u) (hx : ndC (N' v) = (ndC (N v)).set j x) : (flat9 N n).set (v * 9 + j) x = flat9 N' n := by
  induction n with
  | zero => omega
  | succ n ih =>
    rw [flat9_succ, flat9_succ]
    by_cases h : v < n
    · rw [List.set_append, if_pos (by rw [flat9_len]; omega), ih h, hN n (by omega)]
    · obtain rfl : v = n := by omega
      rw [List.set_append, if_neg (by rw [flat9_len]; omega), flat9_len, show v * 9 + j - v * 9 = j by omega, ← hx, flat9_congr fun u hu => hN u (by omega)]

/-- A forest in the heap. -/
structure FS (h : Hp) (a b n : Nat) (N : NN) (tr : Int) : Prop where
  ha : ∃ c, h.blk a = some (.cells [.bool true, .slice (some ⟨b, 0, none⟩) n c, .int .i64 tr]) ∧ n ≤ c
  hb : ∃ sp, h.blk b = some (.cells (flat9 N n ++ sp))
  ne : a ≠ b
  la : a < h.size
  lb : b < h.size
  hn : n ≤ 65536

section
variable {h : Hp} {a b n : Nat} {N : NN} {tr : Int}

theorem FS.c0 (d : FS h a b n N tr) : h.cell ⟨a, 0, none⟩ = some (.bool true) := by obtain ⟨c, hc, _⟩ := d.ha; rw [cell_own hc]; rfl
theorem FS.c1 (d : FS h a b n N tr) : ∃ c, h.cell ⟨a, 1, none⟩ = some (.slice (some ⟨b, 0, none⟩) n c) := by obtain ⟨c, hc, _⟩ := d.ha; exact ⟨c, by rw [cell_own hc]; rfl⟩
theorem FS.c2 (d : FS h a b n N tr) : h.cell ⟨a, 2, none⟩ = some (.int .i64 tr) := by obtain ⟨c, hc, _⟩ := d.ha; rw [cell_own hc]; rfl
theorem FS.cell (d : FS h a b n N tr) {v off : Nat} (hv : v < n) (j : Nat) (hj : j < 9) (ho : off = v * 9 + j) : h.cell ⟨b, off, none⟩ = (ndC (N v))[j]? := by
  obtain ⟨sp, hb⟩ := d.hb
  subst ho; rw [cell_own hb, List.getElem?_append_left (by rw [flat9_len]; omega), flat9_get N hv hj]

theorem FS.keep {h' : Hp} (d : FS h a b n N tr) (hz : h.size ≤ h'.size) (h1 : h'.blk a = h.blk a) (h2 : h'.blk b = h.blk b) : FS h' a b n N tr :=
  ⟨by rw [h1]; exact d.ha, by rw [h2]; exact d.hb, d.ne, by have := d.la; omega, by have := d.lb; omega, d.hn⟩
theorem FS.fr {h' : Hp} (d : FS h a b n N tr) (f : Fr h.size h h') : FS h' a b n N tr := d.keep f.size (f.blk _ d.la) (f.blk _ d.lb)

/-- What a function of a forest leaves alone. -/
structure FrB (a b : Nat) (h h' : Hp) : Prop where
  size : h.size ≤ h'.size
  blk : ∀ c, c < h.size → c ≠ a → c ≠ b → h'.blk c = h.blk c
theorem FrB.refl (a b : Nat) (h : Hp) : FrB a b h h := ⟨Nat.le_refl _, fun _ _ _ _ => rfl⟩
theorem FrB.trans {h' h'' : Hp} (x : FrB a b h h') (y : FrB a b h' h'') : FrB a b h h'' :=
  ⟨Nat.le_trans x.size y.size, fun c hc h1 h2 => (y.blk c (by have := x.size; omega) h1 h2).trans (x.blk c hc h1 h2)⟩
theorem Fr.frB {h' : Hp} (f : Fr h.size h h') : FrB a b h h' := ⟨f.size, fun c hc _ _ => f.blk c hc⟩

theorem FS.st (d : FS h a b n N tr) {v off : Nat} (hv : v < n) (j : Nat) (hj : j < 9) (ho : off = v * 9 + j) {x : Value} (N' : NN) (hN : ∀ u, u ≠ v → N' u = N u) (hx : ndC (N' v) = (ndC (N v)).set j x) {K : Hp → Prop}
    (hK : ∀ h', FS h' a b n N' tr → FrB a b h h' → h'.size = h.size → K h') : stc h ⟨b, off, none⟩ x K := by
  subst ho
  obtain ⟨sp, hb⟩ := d.hb
  refine stc_of hb (by rw [List.length_append, flat9_len]; omega) fun h' z b' k => hK h' ⟨by rw [k a d.ne]; exact d.ha, ⟨sp, by rw [b', List.set_append, if_pos (by rw [flat9_len]; omega), flat9_set hv hj hN hx]⟩, d.ne, by have := d.la; omega, by have := d.lb; omega, d.hn⟩ ⟨by omega, fun c _ _ hc => k c hc⟩ z

theorem FS.sl (d : FS h a b n N tr) {K : Sl → Prop} (hK : ∀ c, K ⟨some ⟨b, 0, none⟩, n, c⟩) : nn (some ⟨a, 0, none⟩) fun a1 => ldS h (a1.add 1) fun s => K s := by
  refine nn_of ?_
  simp only [add_mk, Nat.zero_add]
  obtain ⟨c, hc⟩ := d.c1
  exact ldS_of hc (hK c)
theorem FS.nd (d : FS h a b n N tr) {v : Nat} (hv : v < n) {K : Addr → Prop} (hK : K ⟨b, 0, none⟩) : nn (some ⟨a, 0, none⟩) fun a1 => ldS h (a1.add 1) fun s => ix s.a s.n (v : Int) fun x => K x :=
  d.sl (K := fun s => ix s.a s.n (v : Int) fun x => K x) fun _ => ix_of (by omega) (by simp only; omega) hK

theorem lHas_spec (d : FS h a b n N tr) (v : Int) (K : Bool → Hp → Prop) (hK : ∀ x, (x = true ↔ 0 ≤ v ∧ v < (n : Int)) → K x h) : g_lct_Forest_has (some ⟨a, 0, none⟩) v h K := by
  unfold g_lct_Forest_has
  refine cnd_t rfl (cnd_of (fun c => d.sl (K := fun s => K (decide (v < Int.ofNat s.n)) h) fun _ => hK _ ?_) fun c => hK _ ?_)
  · simp only [decide_eq_true_eq, Int.ofNat_eq_natCast] at c ⊢; omega
  · simp only [decide_eq_false_iff_not] at c
    exact ⟨fun q => (by cases q), fun q => by omega⟩

theorem lCheck_spec (d : FS h a b n N tr) (x y : Int) (K : Int → Hp → Prop) (hbad : ¬ ((0 ≤ x ∧ x < (n : Int)) ∧ 0 ≤ y ∧ y < (n : Int)) → K 3 h) (hok : ∀ u v : Nat, x = u → y = v → u < n → v < n → K 0 h) : g_lct_Forest_check (some ⟨a, 0, none⟩) x y h K := by
  unfold g_lct_Forest_check
  refine cnd_f rfl (nn_of ?_)
  simp only [add_mk, Nat.zero_add]
  refine ldB_of d.c0 (cnd_f rfl (lHas_spec d x _ fun b1 e1 => cnd_of (fun c => hbad fun q => ?_) fun c => lHas_spec d y _ fun b2 e2 => cnd_of (fun c2 => hbad fun q => ?_) fun c2 => ?_))
  · rw [e1.2 q.1] at c; cases c
  · rw [e2.2 q.2] at c2; cases c2
  · have q1 := e1.1 (by simpa using c); have q2 := e2.1 (by simpa using c2)
    exact hok x.toNat y.toNat (by omega) (by omega) (by omega) (by omega)

/-- Whether a node is the root of its splay tree. -/
def topP (N : NN) (v : Nat) : Prop := (N v).up = -1 ∨ ∃ u : Nat, (N v).up = u ∧ (N u).k0 ≠ v ∧ (N u).k1 ≠ v
/-- A number that is none, or a vertex. -/
def inI (n : Nat) (x : Int) : Prop := x = -1 ∨ ∃ u : Nat, x = u ∧ u < n

theorem top_spec (d : FS h a b n N tr) {v : Nat} (hv : v < n) (hu : inI n (N v).up) (K : Bool → Hp → Prop) (hK : ∀ x, (x = true ↔ topP N v) → K x h) : g_lct_Forest_top (some ⟨a, 0, none⟩) (v : Int) h K := by
  unfold g_lct_Forest_top
  refine d.nd hv (K := fun a3 => ldI .i64 h ((a3.add (Int.toNat (v : Int) * 9)).add 0) _) ?_
  simp only [add_mk, Nat.zero_add, Int.toNat_natCast]
  refine ldI_of (by rw [d.cell hv 0 (by omega) (by omega)]; rfl) (cnd_of (fun c => hK _ ?_) fun c => ?_)
  · simp only [beq_iff_eq] at c
    exact ⟨fun _ => .inl c, fun _ => rfl⟩
  · simp only [beq_eq_false_iff_ne] at c
    rcases hu with hu | ⟨u, hu, hun⟩
    · exact absurd hu c
    · have top : topP N v ↔ (N u).k0 ≠ v ∧ (N u).k1 ≠ v := by
        constructor
        · rintro (q | ⟨w, q, hw⟩)
          · exact absurd q c
          · obtain rfl : u = w := by omega
            exact hw
        · intro q; exact .inr ⟨u, hu, q⟩
      rw [hu]
      refine d.nd hun (K := fun a7 => bnd 0 2 <| ldI .i64 h (((a7.add (Int.toNat (u : Int) * 9)).add 1).add (Int.toNat 0 * 1)) _) ⟨by omega, by omega, ?_⟩
      simp only [add_mk, Nat.zero_add, Int.toNat_natCast]
      refine ldI_of (by rw [d.cell hun 1 (by omega) (by omega)]; rfl) (cnd_of (fun c2 => ?_) fun c2 => hK _ ?_)
      · refine d.nd hun (K := fun a7 => bnd 1 2 <| ldI .i64 h (((a7.add (Int.toNat (u : Int) * 9)).add 1).add (Int.toNat 1 * 1)) _) ⟨by omega, by omega, ?_⟩
        simp only [add_mk, Nat.zero_add, Int.toNat_natCast]
        refine ldI_of (by rw [d.cell hun 2 (by omega) (by omega)]; rfl) (hK _ ?_)
        simp only [bne_iff_ne] at c2 ⊢
        rw [top]; exact ⟨fun q => ⟨c2, q⟩, fun q => q.2⟩
      · rw [top]
        simp only [bne_eq_false_iff_eq] at c2
        exact ⟨fun q => (by cases q), fun q => absurd c2 q.1⟩

theorem side_spec (d : FS h a b n N tr) {v u : Nat} (hv : v < n) (hu : (N v).up = u) (hun : u < n) (K : Int → Hp → Prop) (hK : K (if (N u).k1 = v then 1 else 0) h) : g_lct_Forest_side (some ⟨a, 0, none⟩) (v : Int) h K := by
  unfold g_lct_Forest_side
  refine d.sl (K := fun s2 => nn (some ⟨a, 0, none⟩) fun a3 => ldS h (a3.add 1) fun s4 => ix s4.a s4.n (v : Int) fun a5 => ldI .i64 h ((a5.add (Int.toNat (v : Int) * 9)).add 0) fun n6 => ix s2.a s2.n n6 _) fun _ => ?_
  refine d.nd hv (K := fun a5 => ldI .i64 h ((a5.add (Int.toNat (v : Int) * 9)).add 0) _) ?_
  simp only [add_mk, Nat.zero_add, Int.toNat_natCast]
  refine ldI_of (by rw [d.cell hv 0 (by omega) (by omega)]; rfl) ?_
  rw [hu]
  refine ix_of (by omega) (by omega) ⟨by omega, by omega, ?_⟩
  simp only [add_mk, Nat.zero_add, Int.toNat_natCast]
  refine ldI_of (by rw [d.cell hun 2 (by omega) (by omega)]; rfl) (cnd_of (fun c => ?_) fun c => ?_)
  · simp only [beq_iff_eq] at c; rw [if_pos c] at hK; exact hK
  · simp only [beq_eq_false_iff_ne] at c; rw [if_neg c] at hK; exact hK

theorem before_spec (d : FS h a b n N tr) {u v : Nat} (hu : u < n) (hv : v < n) (K : Bool → Hp → Prop) (hK : K (decide (bef N u v)) h) : g_lct_Forest_before (some ⟨a, 0, none⟩) (u : Int) (v : Int) h K := by
  have ld : ∀ {w : Nat} (hw : w < n) {K : Int → Prop}, K (N w).key → nn (some ⟨a, 0, none⟩) fun a1 => ldS h (a1.add 1) fun s2 => ix s2.a s2.n (w : Int) fun a3 => ldI .i64 h ((a3.add (Int.toNat (w : Int) * 9)).add 4) K := fun {w} hw {K} hk => by
    refine d.nd hw (K := fun a3 => ldI .i64 h ((a3.add (Int.toNat (w : Int) * 9)).add 4) K) ?_
    simp only [add_mk, Nat.zero_add, Int.toNat_natCast]
    exact ldI_of (by rw [d.cell hw 4 (by omega) (by omega)]; rfl) hk
  unfold g_lct_Forest_before
  refine ld hu (ld hv (cnd_of (fun c => ?_) fun c => ld hu (ld hv (cnd_of (fun c2 => ?_) fun c2 => ?_))))
  all_goals simp only [decide_eq_true_eq, decide_eq_false_iff_not, beq_iff_eq, beq_eq_false_iff_ne] at *
  · rwa [decide_eq_true (show bef N u v from .inl c)] at hK
  · have : decide (bef N u v) = decide ((u : Int) < (v : Int)) := by
      rw [Bool.eq_iff_iff, decide_eq_true_eq, decide_eq_true_eq]; unfold bef; omega
    rwa [this] at hK
  · rwa [decide_eq_false (show ¬ bef N u v by unfold bef; omega)] at hK
end

end Go.Hx
