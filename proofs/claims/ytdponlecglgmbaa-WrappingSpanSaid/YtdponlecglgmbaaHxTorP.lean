/- What the document's torus shows, over the abstract heap. No condition. -/
import Derived.Test.YtdponlecglgmbaaHxTorO
namespace Go.Hx
set_option linter.unusedSimpArgs false
set_option linter.unusedVariables false

section
variable {h : Hp} {hs a w t : Nat} {E : List Nat}

theorem valid_spec (d : RS h hs a w t E) (K : Bool → Hp → Prop) (hK : K true h) : g_ref30_Torus_valid (some ⟨a, 0, none⟩) h K := by
  unfold g_ref30_Torus_valid
  refine cnd_t rfl (nn_of ?_)
  simp only [add_mk]
  exact ldB_of (by rw [d.cell]; rfl) hK

/-- Whether an edge that is looked at does not fit. -/
def clB (w t : Nat) (E : List Nat) (F X Y : List Int) (sel : Option Nat) (k : Bool) (m : Nat) : Prop :=
  ∃ e, e < m ∧ e ∈ E ∧ (∀ v, sel = some v → gi F (e / 2) = (v : Int)) ∧ WI.mis X Y k (e / 2) (toV w t (e / 2) (e % 2)) (stX (e % 2)) (stY (e % 2))

theorem clB_succ {w t : Nat} {E : List Nat} {F X Y : List Int} {sel : Option Nat} {k : Bool} {m : Nat} : clB w t E F X Y sel k (m + 1) ↔ clB w t E F X Y sel k m ∨ (m ∈ E ∧ (∀ v, sel = some v → gi F (m / 2) = (v : Int)) ∧ WI.mis X Y k (m / 2) (toV w t (m / 2) (m % 2)) (stX (m % 2)) (stY (m % 2))) := by
  constructor
  · intro ⟨e, h1, h2⟩
    by_cases q : e = m
    · subst q; exact .inr h2
    · exact .inl ⟨e, by omega, h2⟩
  · rintro (⟨e, h1, h2⟩ | h2)
    · exact ⟨e, by omega, h2⟩
    · exact ⟨m, by omega, h2⟩

theorem closed_spec (d : RS h hs a w t E) {B p q r : Nat} {F X Y : List Int} (W : WB h B p q r (w * t) F X Y) (wi : WI (eR w t E) (w * t) (w * t) (w * t) F X Y) (sel : Option Nat) (v : Int) (hv : v = match sel with | some v => (v : Int) | none => -1) (K : Bool → Bool → Hp → Prop)
    (hK : ∀ h' b c, Fr h.size h h' → (b = true ↔ clB w t E F X Y sel false (2 * (w * t))) → (c = true ↔ clB w t E F X Y sel true (2 * (w * t))) → K b c h') : g_ref30_Torus_closed (some ⟨a, 0, none⟩) (slB p (w * t)) (slB q (w * t)) (slB r (w * t)) v h K := by
  have hw1 := d.w1; have ht1 := d.t1; have hwt := d.wt
  obtain ⟨n, hn⟩ : ∃ n, n = w * t := ⟨_, rfl⟩
  rw [← hn] at W wi hK hwt ⊢
  have n1 := W.pq; have n2 := W.pr'; have n3 := W.qr
  have ip := W.ip; have iq := W.iq; have ir := W.ir
  unfold g_ref30_Torus_closed
  refine alo_of fun h2 z2 b2 k2 => ?_
  have d2 := d.fr (h' := h2) ⟨by omega, k2⟩
  have bp := (k2 p ip.2).trans W.bp
  have bq := (k2 q iq.2).trans W.bq
  have br := (k2 r ir.2).trans W.br
  refine jn_of (fun s g => g = h2 ∧ (s.1 = true ↔ clB w t E F X Y sel false (2 * n)) ∧ (s.2.1 = true ↔ clB w t E F X Y sel true (2 * n))) ?_ fun K5 hK5 => ?_
  case refine_1 =>
    rintro ⟨b, c, u⟩ g ⟨rfl, h1, h2⟩
    exact hK _ b c ⟨by omega, k2⟩ h1 h2
  refine for_of (2 * n) (fun e (s : Bool × Bool × Int × Unit) g => g = h2 ∧ s.2.2.1 = (e : Int) ∧ (s.1 = true ↔ clB w t E F X Y sel false e) ∧ (s.2.1 = true ↔ clB w t E F X Y sel true e)) ?_ ⟨rfl, rfl, ⟨fun q => (by cases q), fun ⟨e, h1, _⟩ => by omega⟩, ⟨fun q => (by cases q), fun ⟨e, h1, _⟩ => by omega⟩⟩
  rintro e Ke ⟨b, c, s, u⟩ g he ⟨rfl, h0, hb, hc⟩ hKe
  simp only at h0 hb hc
  subst h0
  refine nn_of ?_
  simp only [add_mk, Nat.zero_add]
  refine ldS_of (by rw [d2.cell]; rfl) (cnd_of (fun c1 => ?_) fun c1 => ?_)
  · simp only [decide_eq_true_eq, Int.ofNat_eq_natCast] at c1
    have hen : e < 2 * n := by omega
    have ee : IntKind.i64.wrap ((e : Int) + 1) = ((e + 1 : Nat) : Int) := by rw [w64_eq (by omega) (by omega)]; omega
    simp only [w64, ee]
    have ha : e / 2 < n := by omega
    have hz := toV_lt (D := e % 2) hw1 ht1 (show e / 2 < w * t by omega)
    rw [← hn] at hz
    refine ends_spec d2 (by omega) _ ?_
    have m1 : Int.tmod (e : Int) 2 = stY (e % 2) := by rw [Int.tmod_eq_emod_of_nonneg (by omega), ← (stv e).1]; omega
    have sv := (stv e).2
    rw [(stv e).1] at sv
    have sl0 := st_le (e % 2) false; have sl1 := st_le (e % 2) true
    simp only [pr] at sl0 sl1
    simp only [m1]
    have skip : ¬ (e ∈ E ∧ (∀ v, sel = some v → gi F (e / 2) = (v : Int))) → Ke (b, c, ((e + 1 : Nat) : Int), ()) g := fun hq => hKe hen _ _ ⟨rfl, rfl, by
      rw [clB_succ]
      exact ⟨fun q => .inl (hb.1 q), fun q => q.elim hb.2 fun q => absurd ⟨q.1, q.2.1⟩ hq⟩, by
      rw [clB_succ]
      exact ⟨fun q => .inl (hc.1 q), fun q => q.elim hc.2 fun q => absurd ⟨q.1, q.2.1⟩ hq⟩⟩
    refine jn_of (fun _ g' => g' = g ∧ e ∈ E ∧ (∀ v, sel = some v → gi F (e / 2) = (v : Int))) ?_ fun K16 hK16 => ?_
    case refine_2 =>
      refine nn_of ?_
      simp only [add_mk, Nat.zero_add]
      refine ldS_of (by rw [d2.cell]; rfl) (ix_of (by omega) (by first | omega | (simp only; omega)) ?_)
      simp only [add_mk, Nat.zero_add, Nat.add_zero, Nat.mul_one, Int.toNat_natCast]
      obtain ⟨bb, hb1, hb2⟩ := d2.has (e := e) (by omega)
      refine ldB_of hb1 (cnd_of (fun c3 => ?_) fun c3 => ?_)
      · refine skip fun q => ?_
        rw [hb2.2 q.1] at c3; cases c3
      have iE : e ∈ E := hb2.1 (by simpa using c3)
      cases sel with
      | none =>
        simp only at hv
        subst hv
        exact cnd_f rfl (hK16 _ _ ⟨rfl, iE, fun v q => by cases q⟩)
      | some v0 =>
        simp only at hv
        subst hv
        refine cnd_t (by simp) ?_
        refine ldS_of (by rw [cell_own b2]; rfl) (ix_of (by omega) (by first | omega | (simp only; omega)) ?_)
        simp only [add_mk, Nat.zero_add, Nat.add_zero, Nat.mul_one, Int.toNat_natCast]
        refine ldI_of (gi_cell bp wi.lf ha) (cnd_of (fun c4 => ?_) fun c4 => ?_)
        · refine skip fun q => ?_
          rw [q.2 v0 rfl] at c4; simp at c4
        · refine hK16 _ _ ⟨rfl, iE, fun v q => ?_⟩
          cases q; simpa using c4
    rintro ⟨⟩ g' ⟨rfl, iE, hs'⟩
    have bd := wi.bnd (e / 2) ha
    have x1 : IntKind.i64.wrap (IntKind.i64.wrap (gi X (e / 2) + 1) - stY (e % 2)) = gi X (e / 2) + stX (e % 2) := by
      rw [w64_eq (x := gi X (e / 2) + 1) (by omega) (by omega), w64_eq (by omega) (by omega)]; omega
    have x2 : IntKind.i64.wrap (gi Y (e / 2) + stY (e % 2)) = gi Y (e / 2) + stY (e % 2) := w64_eq (by omega) (by omega)
    refine jn_of (fun s g => g = g' ∧ (s.1 = true ↔ clB w t E F X Y sel false (e + 1))) ?_ fun K19 hK19 => ?_
    case refine_2 =>
      refine cnd_of (fun c3 => hK19 _ _ ⟨rfl, ⟨fun _ => clB_succ.2 (.inl (hb.1 c3)), fun _ => rfl⟩⟩) fun c3 => ?_
      refine ldS_of (by rw [cell_own b2]; rfl) (ix_of (by omega) (by first | omega | (simp only; omega)) ?_)
      simp only [add_mk, Nat.zero_add, Nat.add_zero, Nat.mul_one, Int.toNat_natCast]
      refine ldI_of (gi_cell bq wi.lx ha) ⟨by omega, ldS_of (by rw [cell_own b2]; rfl) (ix_of (by omega) (by first | omega | (simp only; omega)) ?_)⟩
      simp only [add_mk, Nat.zero_add, Nat.add_zero, Nat.mul_one, Int.toNat_natCast]
      refine ldI_of (gi_cell bq wi.lx hz) (hK19 _ _ ⟨rfl, ?_⟩)
      rw [x1, clB_succ]
      have : ¬ clB w t E F X Y sel false e := fun q => by rw [hb.2 q] at c3; cases c3
      simp only [bne_iff_ne]
      exact ⟨fun q => .inr ⟨iE, hs', q⟩, fun q => q.elim (fun q => absurd q this) fun q => q.2.2⟩
    rintro ⟨b', u⟩ g ⟨rfl, hb'⟩
    refine cnd_of (fun c3 => hKe hen _ _ ⟨rfl, rfl, hb', ⟨fun _ => clB_succ.2 (.inl (hc.1 c3)), fun _ => rfl⟩⟩) fun c3 => ?_
    refine ldS_of (by rw [cell_own b2]; rfl) (ix_of (by omega) (by first | omega | (simp only; omega)) ?_)
    simp only [add_mk, Nat.zero_add, Nat.add_zero, Nat.mul_one, Int.toNat_natCast]
    refine ldI_of (gi_cell br wi.ly ha) ⟨by omega, ldS_of (by rw [cell_own b2]; rfl) (ix_of (by omega) (by first | omega | (simp only; omega)) ?_)⟩
    simp only [add_mk, Nat.zero_add, Nat.add_zero, Nat.mul_one, Int.toNat_natCast]
    refine ldI_of (gi_cell br wi.ly hz) (hKe hen _ _ ⟨rfl, rfl, hb', ?_⟩)
    rw [x2, clB_succ]
    have : ¬ clB w t E F X Y sel true e := fun q => by rw [hc.2 q] at c3; cases c3
    simp only [bne_iff_ne]
    exact ⟨fun q => .inr ⟨iE, hs', q⟩, fun q => q.elim (fun q => absurd q this) fun q => q.2.2⟩
  · simp only [decide_eq_false_iff_not, Int.ofNat_eq_natCast] at c1
    obtain rfl : e = 2 * n := by omega
    exact hK5 _ _ ⟨rfl, hb, hc⟩

theorem clB_none {F X Y : List Int} (hw : 1 ≤ w) (ht : 1 ≤ t) (hE : ∀ e, e ∈ E → e < 2 * (w * t)) (wi : WI (eR w t E) (w * t) (w * t) (w * t) F X Y) (k : Bool) : clB w t E F X Y none k (2 * (w * t)) ↔ ∃ v, v < w * t ∧ WrapC (eR w t E) v k := by
  have Rb := eR_Rb hw ht hE
  constructor
  · intro ⟨e, h1, h2, _, h3⟩
    exact ⟨e / 2, by omega, (wi.wrap Rb (by omega) k).1 ⟨_, _, _, _, ⟨e, h2, rfl, rfl, rfl, rfl⟩, rfl, h3⟩⟩
  · intro ⟨v, hv, h⟩
    obtain ⟨u, x, s, q, ⟨e, h2, rfl, rfl, rfl, rfl⟩, _, h3⟩ := (wi.wrap Rb hv k).2 h
    exact ⟨e, hE e h2, h2, fun v q => (by cases q), h3⟩

theorem clB_some {F X Y : List Int} (hw : 1 ≤ w) (ht : 1 ≤ t) (hE : ∀ e, e ∈ E → e < 2 * (w * t)) (wi : WI (eR w t E) (w * t) (w * t) (w * t) F X Y) (k : Bool) {v l : Nat} (hv : v < w * t) (hl : gi F v = (l : Int)) : clB w t E F X Y (some l) k (2 * (w * t)) ↔ WrapC (eR w t E) v k := by
  have Rb := eR_Rb hw ht hE
  constructor
  · intro ⟨e, h1, h2, hs, h3⟩
    exact (wi.wrap Rb hv k).1 ⟨_, _, _, _, ⟨e, h2, rfl, rfl, rfl, rfl⟩, (hs l rfl).trans hl.symm, h3⟩
  · intro h
    obtain ⟨u, x, s, q, ⟨e, h2, rfl, rfl, rfl, rfl⟩, hs, h3⟩ := (wi.wrap Rb hv k).2 h
    exact ⟨e, hE e h2, h2, fun v q => (by cases q; exact hs.trans hl), h3⟩

theorem rWraps_spec (d : RS h hs a w t E) (K : Bool → Bool → Hp → Prop) (hK : ∀ h' b c, Fr h.size h h' → wrB (w * t) (eR w t E) false b → wrB (w * t) (eR w t E) true c → K b c h') : g_ref30_Torus_Wraps (some ⟨a, 0, none⟩) h K := by
  unfold g_ref30_Torus_Wraps
  refine valid_spec d _ (cnd_f rfl (walked_spec d _ fun h6 p q r F X Y f6 W wi => ?_))
  refine closed_spec (d.fr f6) W wi none _ rfl _ fun h9 b c f9 hb hc => hK h9 b c ⟨by have := f6.size; have := f9.size; omega, fun x hx => by rw [f9.blk x (by have := f6.size; omega), f6.blk x hx]⟩ ?_ ?_
  · exact hb.trans (clB_none d.w1 d.t1 d.hE wi false)
  · exact hc.trans (clB_none d.w1 d.t1 d.hE wi true)

theorem rExists_spec (d : RS h hs a w t E) (v : Int) (K : Bool → Hp → Prop) (hK : ∀ b, (b = true ↔ 0 ≤ v ∧ v < ((w * t : Nat) : Int)) → K b h) : g_ref30_Torus_exists (some ⟨a, 0, none⟩) v h K := by
  have hwt := d.wt
  unfold g_ref30_Torus_exists
  refine valid_spec d _ (cnd_t rfl (cnd_of (fun c => nn_of ?_) fun c => hK _ ?_))
  · simp only [add_mk, Nat.zero_add]
    refine ldI_of (by rw [d.cell]; rfl) (nn_of ?_)
    simp only [add_mk, Nat.zero_add]
    refine ldI_of (by rw [d.cell]; rfl) (hK _ ?_)
    simp only [decide_eq_true_eq] at c ⊢
    rw [w64, ← Int.natCast_mul, w64n (by omega)]
    omega
  · simp only [decide_eq_false_iff_not] at c
    constructor
    · intro q; cases q
    · omega

theorem rSame_spec (d : RS h hs a w t E) (i j : Int) (K : Bool → Hp → Prop) (hK : ∀ h' b, Fr h.size h h' → saB (w * t) (eR w t E) i j b → K b h') : g_ref30_Torus_Same (some ⟨a, 0, none⟩) i j h K := by
  have hwt := d.wt
  have no : ¬ (0 ≤ i ∧ i < ((w * t : Nat) : Int)) ∨ ¬ (0 ≤ j ∧ j < ((w * t : Nat) : Int)) → saB (w * t) (eR w t E) i j false := fun q => ⟨fun q => (by cases q), fun ⟨x, y, e1, e2, h1, h2, _⟩ => by omega⟩
  unfold g_ref30_Torus_Same
  refine rExists_spec d i _ fun b1 e1 => cnd_of (fun c => hK h _ (Fr.refl _ _) (no (.inl fun q => by rw [e1.2 q] at c; cases c))) fun c => ?_
  have gi1 := e1.1 (by simpa using c)
  refine rExists_spec d j _ fun b2 e2 => cnd_of (fun c => hK h _ (Fr.refl _ _) (no (.inr fun q => by rw [e2.2 q] at c; cases c))) fun c => ?_
  have gj1 := e2.1 (by simpa using c)
  refine walked_spec d _ fun h8 p q r F X Y f8 W wi => alo_of fun h10 z10 b10 k10 => ?_
  obtain ⟨x, rfl⟩ : ∃ x : Nat, i = x := ⟨i.toNat, by omega⟩
  obtain ⟨y, rfl⟩ : ∃ y : Nat, j = y := ⟨j.toNat, by omega⟩
  simp only [add_mk, Nat.zero_add]
  refine stc_of b10 (by simp) fun h11 z11 b11 k11 => stc_of b11 (by simp) fun h12 z12 b12 k12 => stc_of b12 (by simp) fun h13 z13 b13 k13 => ?_
  simp only [List.set_cons_zero, List.set_cons_succ] at b13
  have ip := W.ip
  have bp : h13.blk p = some (.cells (ints F)) := by rw [k13 _ (by omega), k12 _ (by omega), k11 _ (by omega), k10 _ (by omega), W.bp]
  refine ldS_of (by rw [cell_own b13]; rfl) (ix_of (by omega) (by first | omega | (simp only; omega)) ?_)
  simp only [add_mk, Nat.zero_add, Nat.add_zero, Nat.mul_one, Int.toNat_natCast]
  refine ldI_of (gi_cell bp wi.lf (by omega)) (ldS_of (by rw [cell_own b13]; rfl) (ix_of (by omega) (by first | omega | (simp only; omega)) ?_))
  simp only [add_mk, Nat.zero_add, Nat.add_zero, Nat.mul_one, Int.toNat_natCast]
  have z8 := f8.size
  refine ldI_of (gi_cell bp wi.lf (by omega)) (hK _ _ ⟨by omega, fun c hc => by rw [k13 _ (by omega), k12 _ (by omega), k11 _ (by omega), k10 _ (by omega), f8.blk _ hc]⟩ ?_)
  unfold saB
  rw [beq_iff_eq, wi.conn (eR_Rb d.w1 d.t1 d.hE) (by omega) (by omega)]
  constructor
  · intro q; exact ⟨x, y, rfl, rfl, by omega, by omega, q⟩
  · rintro ⟨x', y', e1, e2, _, _, q⟩
    obtain rfl : x = x' := by omega
    obtain rfl : y = y' := by omega
    exact q

theorem rOffset_spec (d : RS h hs a w t E) (i j : Int) (K : Int → Int → Bool → Hp → Prop) (hK : ∀ h' x y b, Fr h.size h h' → ofB (w * t) (eR w t E) i j x y b → K x y b h') : g_ref30_Torus_Offset (some ⟨a, 0, none⟩) i j h K := by
  have hwt := d.wt
  unfold g_ref30_Torus_Offset
  refine rSame_spec d i j _ fun h2 b f2 hb => cnd_of (fun c => hK h2 0 0 false f2 (.inr ⟨rfl, rfl, rfl, ?_⟩)) fun c => ?_
  · rintro ⟨x, y, e1, e2, h1, h2, h3, _⟩
    rw [hb.2 ⟨x, y, e1, e2, h1, h2, h3⟩] at c; cases c
  obtain ⟨x, y, rfl, rfl, hx, hy, hc⟩ := hb.1 (by simpa using c)
  have z2 := f2.size
  have d2 := d.fr f2
  refine walked_spec d2 _ fun h6 p q r F X Y f6 W wi => alo_of fun h8 z8 b8 k8 => ?_
  have z6 := f6.size
  simp only [add_mk, Nat.zero_add]
  refine stc_of b8 (by simp) fun h9 z9 b9 k9 => stc_of b9 (by simp) fun h10 z10 b10 k10 => stc_of b10 (by simp) fun h11 z11 b11 k11 => ?_
  simp only [List.set_cons_zero, List.set_cons_succ] at b11
  have f11 : Fr h6.size h6 h11 := ⟨by omega, fun c hc => by rw [k11 _ (by omega), k10 _ (by omega), k9 _ (by omega), k8 _ hc]⟩
  have ip := W.ip; have iq := W.iq; have ir := W.ir
  have W11 : WB h11 h2.size p q r (w * t) F X Y := ⟨by rw [f11.blk _ ip.2, W.bp], by rw [f11.blk _ iq.2, W.bq], by rw [f11.blk _ ir.2, W.br], ⟨ip.1, by omega⟩, ⟨iq.1, by omega⟩, ⟨ir.1, by omega⟩, W.pq, W.pr', W.qr⟩
  have d11 := (d2.fr f6).fr f11
  refine ldS_of (by rw [cell_own b11]; rfl) (ldS_of (by rw [cell_own b11]; rfl) (ldS_of (by rw [cell_own b11]; rfl) (ldS_of (by rw [cell_own b11]; rfl) (ix_of (by omega) (by first | omega | (simp only; omega)) ?_))))
  simp only [add_mk, Nat.zero_add, Nat.add_zero, Nat.mul_one, Int.toNat_natCast]
  obtain ⟨l, hl, _, wx⟩ := wi.lab hx
  obtain ⟨l', hl', _, wy⟩ := wi.lab hy
  refine ldI_of (gi_cell W11.bp wi.lf hx) ?_
  refine closed_spec d11 W11 wi (some l) _ hl _ fun h20 b0 b1 f20 hb0 hb1 => ?_
  have z20 := f20.size
  rw [clB_some d.w1 d.t1 d.hE wi _ hx hl] at hb0 hb1
  have g20 : Fr h.size h h20 := ⟨by omega, fun c hc => by rw [f20.blk _ (by omega), f11.blk _ (by omega), f6.blk _ (by omega), f2.blk _ hc]⟩
  have no : ∀ k, WrapC (eR w t E) x k → ofB (w * t) (eR w t E) (x : Nat) (y : Nat) 0 0 false := fun k hk => .inr ⟨rfl, rfl, rfl, fun ⟨x', y', e1, e2, _, _, _, q⟩ => by
    obtain rfl : x = x' := by omega
    exact q k hk⟩
  refine cnd_of (fun c => hK _ _ _ _ g20 (no _ (hb0.1 c))) fun c0 => cnd_of (fun c => hK _ _ _ _ g20 (no _ (hb1.1 c))) fun c1 => ?_
  have b20 : h20.blk h6.size = _ := (f20.blk _ (by omega)).trans b11
  have bq : h20.blk q = some (.cells (ints X)) := by rw [f20.blk _ (by omega), W11.bq]
  have br : h20.blk r = some (.cells (ints Y)) := by rw [f20.blk _ (by omega), W11.br]
  refine ldS_of (by rw [cell_own b20]; rfl) (ix_of (by omega) (by first | omega | (simp only; omega)) ?_)
  simp only [add_mk, Nat.zero_add, Nat.add_zero, Nat.mul_one, Int.toNat_natCast]
  refine ldI_of (gi_cell bq wi.lx hy) (ldS_of (by rw [cell_own b20]; rfl) (ix_of (by omega) (by first | omega | (simp only; omega)) ?_))
  simp only [add_mk, Nat.zero_add, Nat.add_zero, Nat.mul_one, Int.toNat_natCast]
  refine ldI_of (gi_cell bq wi.lx hx) (ldS_of (by rw [cell_own b20]; rfl) (ix_of (by omega) (by first | omega | (simp only; omega)) ?_))
  simp only [add_mk, Nat.zero_add, Nat.add_zero, Nat.mul_one, Int.toNat_natCast]
  refine ldI_of (gi_cell br wi.ly hy) (ldS_of (by rw [cell_own b20]; rfl) (ix_of (by omega) (by first | omega | (simp only; omega)) ?_))
  simp only [add_mk, Nat.zero_add, Nat.add_zero, Nat.mul_one, Int.toNat_natCast]
  refine ldI_of (gi_cell br wi.ly hx) (hK _ _ _ _ g20 (.inl ⟨rfl, x, y, rfl, rfl, hx, hy, fun k => ?_, ?_⟩))
  · cases k
    · intro q; rw [hb0.2 q] at c0; cases c0
    · intro q; rw [hb1.2 q] at c1; cases c1
  · have bx := wi.bnd x hx; have by' := wi.bnd y hy
    have := (wi.conn (eR_Rb d.w1 d.t1 d.hE) hx hy).2 hc
    obtain rfl : l = l' := by omega
    simp only [w64]
    rw [w64_eq (x := gi X y - gi X x) (by omega) (by omega), w64_eq (x := gi Y y - gi Y x) (by omega) (by omega)]
    exact (wx.symm.trans wy).cast (by omega) (by omega)

theorem rCount_spec (d : RS h hs a w t E) (K : Int → Hp → Prop) (hK : ∀ h', Fr h.size h h' → K (compN (w * t) (eR w t E) : Nat) h') : g_ref30_Torus_Count (some ⟨a, 0, none⟩) h K := by
  have hwt := d.wt
  unfold g_ref30_Torus_Count
  refine valid_spec d _ (cnd_f rfl (walked_spec d _ fun h6 p q r F X Y f6 W wi => alo_of fun h8 z8 b8 k8 => ?_))
  have z6 := f6.size
  simp only [add_mk, Nat.zero_add]
  refine stc_of b8 (by simp) fun h9 z9 b9 k9 => stc_of b9 (by simp) fun h10 z10 b10 k10 => stc_of b10 (by simp) fun h11 z11 b11 k11 => ?_
  simp only [List.set_cons_zero, List.set_cons_succ] at b11
  have f11 : Fr h6.size h6 h11 := ⟨by omega, fun c hc => by rw [k11 _ (by omega), k10 _ (by omega), k9 _ (by omega), k8 _ hc]⟩
  have ip := W.ip
  have bp : h11.blk p = some (.cells (ints F)) := by rw [f11.blk _ ip.2, W.bp]
  have d11 := (d.fr f6).fr f11
  refine for_of (w * t) (fun k (s : Int × Int × Unit) g => g = h11 ∧ s.2.1 = (k : Int) ∧ s.1 = ((cntB k fun v => gi F v == (v : Int) : Nat) : Int)) ?_ ⟨rfl, rfl, rfl⟩
  rintro k Kr ⟨m, s, u⟩ g hk ⟨rfl, h0, hm⟩ hKr
  simp only at h0 hm
  subst h0 hm
  refine nn_of ?_
  simp only [add_mk, Nat.zero_add]
  refine ldI_of (by rw [d11.cell]; rfl) (nn_of ?_)
  simp only [add_mk, Nat.zero_add]
  refine ldI_of (by rw [d11.cell]; rfl) ?_
  have ewt : IntKind.i64.wrap ((w : Int) * t) = ((w * t : Nat) : Int) := by rw [← Int.natCast_mul, w64n (by omega)]
  simp only [w64, ewt]
  have hcl := cntB_le k fun v => gi F v == (v : Int)
  refine cnd_of (fun c => ?_) fun c => ?_
  · simp only [decide_eq_true_eq] at c
    have ek : IntKind.i64.wrap ((k : Int) + 1) = ((k + 1 : Nat) : Int) := by rw [w64_eq (by omega) (by omega)]; omega
    simp only [ek]
    refine ldS_of (by rw [cell_own b11]; rfl) (ix_of (by omega) (by first | omega | (simp only; omega)) ?_)
    simp only [add_mk, Nat.zero_add, Nat.add_zero, Nat.mul_one, Int.toNat_natCast]
    refine ldI_of (gi_cell bp wi.lf (by omega)) (cnd_of (fun c2 => hKr (by omega) _ _ ⟨rfl, rfl, ?_⟩) fun c2 => hKr (by omega) _ _ ⟨rfl, rfl, ?_⟩)
    · rw [cntB_succ, if_pos c2, w64_eq (by omega) (by omega)]; simp
    · rw [cntB_succ, if_neg (by rw [c2]; simp)]; simp
  · simp only [decide_eq_false_iff_not] at c
    obtain rfl : k = w * t := by omega
    rw [wi.count (eR_Rb d.w1 d.t1 d.hE)]
    exact hK _ ⟨by omega, fun c hc => by rw [f11.blk _ (by omega), f6.blk _ hc]⟩
end

end Go.Hx
