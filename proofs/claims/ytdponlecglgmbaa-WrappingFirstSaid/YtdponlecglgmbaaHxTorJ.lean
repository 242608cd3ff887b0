/- The law about exchanging columns and rows. No condition. -/
import Derived.Test.YtdponlecglgmbaaHxTorI
namespace Go.Hx
set_option linter.unusedSimpArgs false
set_option linter.unusedVariables false

def tau (w t v : Nat) : Nat := v % w * t + v / w
def turnE (w t e : Nat) : Nat := 2 * tau w t (e / 2) + (1 - e % 2)

theorem div_lt' {w t v : Nat} (hw : 1 ≤ w) (hv : v < w * t) : v / w < t := (Nat.div_lt_iff_lt_mul (by omega)).2 (by rw [Nat.mul_comm]; exact hv)

theorem tau_lt {w t v : Nat} (hw : 1 ≤ w) (hv : v < w * t) : tau w t v < w * t := by
  have := vtx_lt (w := t) (t := w) (div_lt' hw hv) (Nat.mod_lt v hw)
  rw [Nat.mul_comm t w] at this
  exact this

theorem tau_mod {w t v : Nat} (hw : 1 ≤ w) (hv : v < w * t) : tau w t v % t = v / w := vtx_mod (div_lt' hw hv)
theorem tau_div {w t v : Nat} (hw : 1 ≤ w) (hv : v < w * t) : tau w t v / t = v % w := vtx_div (div_lt' hw hv)

theorem tau_tau {w t v : Nat} (hw : 1 ≤ w) (hv : v < w * t) : tau t w (tau w t v) = v := by
  show tau w t v % t * w + tau w t v / t = v
  rw [tau_mod hw hv, tau_div hw hv, Nat.mul_comm]; exact Nat.div_add_mod v w

theorem tau_toV {w t v D : Nat} (hw : 1 ≤ w) (ht : 1 ≤ t) (hv : v < w * t) (hD : D ≤ 1) : toV t w (tau w t v) (1 - D) = tau w t (toV w t v D) := by
  have h1 := tau_mod hw hv
  have h2 := tau_div hw hv
  have h3 : v % w < w := Nat.mod_lt _ hw
  have h4 := div_lt' hw hv
  have hD' : D = 0 ∨ D = 1 := by omega
  rcases hD' with rfl | rfl
  · unfold toV tau
    simp only [Nat.sub_zero, if_true, show ¬ (1 : Nat) = 0 by omega, if_false]
    rw [show v % w * t + v / w = tau w t v from rfl, h1, h2, vtx_mod (Nat.mod_lt _ hw), vtx_div (Nat.mod_lt _ hw)]
  · unfold toV tau
    simp only [Nat.sub_self, if_true, show ¬ (1 : Nat) = 0 by omega, if_false]
    rw [show v % w * t + v / w = tau w t v from rfl, h1, h2, vtx_mod h3, vtx_div h3]

theorem turnE_lt {w t e : Nat} (hw : 1 ≤ w) (he : e < 2 * (w * t)) : turnE w t e < 2 * (t * w) := by
  have := tau_lt (t := t) hw (show e / 2 < w * t by omega)
  rw [Nat.mul_comm t w]
  unfold turnE; omega

theorem turnE_turnE {w t e : Nat} (hw : 1 ≤ w) (he : e < 2 * (w * t)) : turnE t w (turnE w t e) = e := by
  have h1 : turnE w t e / 2 = tau w t (e / 2) := by unfold turnE; omega
  have h2 : turnE w t e % 2 = 1 - e % 2 := by unfold turnE; omega
  show 2 * tau t w (turnE w t e / 2) + (1 - turnE w t e % 2) = e
  rw [h1, h2, tau_tau hw (by omega)]; omega

theorem Wk.turn {w t : Nat} {E : List Nat} (hw : 1 ≤ w) (ht : 1 ≤ t) (hE : ∀ e ∈ E, e < 2 * (w * t)) {a b : Nat} {x y : Int} (h : Wk (eR w t E) a b x y) : Wk (eR t w (E.map (turnE w t))) (tau w t a) (tau w t b) y x := by
  have edge : ∀ f, f ∈ E → eR t w (E.map (turnE w t)) (tau w t (f / 2)) (tau w t (toV w t (f / 2) (f % 2))) (stY (f % 2)) (stX (f % 2)) := fun f hf => by
    have he := hE f hf
    have h1 : turnE w t f / 2 = tau w t (f / 2) := by unfold turnE; omega
    have h2 : turnE w t f % 2 = 1 - f % 2 := by unfold turnE; omega
    refine ⟨turnE w t f, List.mem_map_of_mem hf, h1.symm, ?_, ?_, ?_⟩
    · rw [h1, h2, tau_toV hw ht (by omega) (by omega)]
    · rw [h2]; unfold stX stY; split <;> split <;> omega
    · rw [h2]; unfold stX stY; split <;> split <;> omega
  induction h with
  | refl => exact .refl _
  | fwd _ e ih => obtain ⟨f, hf, rfl, rfl, rfl, rfl⟩ := e; exact .fwd ih (edge f hf)
  | bwd _ e ih => obtain ⟨f, hf, rfl, rfl, rfl, rfl⟩ := e; exact .bwd ih (edge f hf)

theorem map_turn {w t : Nat} (hw : 1 ≤ w) : ∀ (E : List Nat), (∀ e ∈ E, e < 2 * (w * t)) → (E.map (turnE w t)).map (turnE t w) = E
  | [], _ => rfl
  | e :: E, h => by
    rw [List.map_cons, List.map_cons, turnE_turnE hw (h e List.mem_cons_self), map_turn hw E fun f hf => h f (List.mem_cons_of_mem _ hf)]

theorem Wk.turn_iff {w t : Nat} {E : List Nat} (hw : 1 ≤ w) (ht : 1 ≤ t) (hE : ∀ e ∈ E, e < 2 * (w * t)) {a b : Nat} (ha : a < w * t) (hb : b < w * t) {x y : Int} : Wk (eR w t E) a b x y ↔ Wk (eR t w (E.map (turnE w t))) (tau w t a) (tau w t b) y x := by
  refine ⟨fun h => h.turn hw ht hE, fun h => ?_⟩
  have := h.turn ht hw (fun e he => by
    obtain ⟨f, hf, rfl⟩ := List.mem_map.1 he
    exact turnE_lt hw (hE f hf))
  rw [map_turn hw E hE, tau_tau hw ha, tau_tau hw hb] at this
  exact this

theorem Conn.turn_iff {w t : Nat} {E : List Nat} (hw : 1 ≤ w) (ht : 1 ≤ t) (hE : ∀ e ∈ E, e < 2 * (w * t)) {a b : Nat} (ha : a < w * t) (hb : b < w * t) : Conn (eR w t E) a b ↔ Conn (eR t w (E.map (turnE w t))) (tau w t a) (tau w t b) :=
  ⟨fun ⟨x, y, h⟩ => ⟨y, x, (Wk.turn_iff hw ht hE ha hb).1 h⟩, fun ⟨x, y, h⟩ => ⟨y, x, (Wk.turn_iff hw ht hE ha hb).2 h⟩⟩

theorem pr_not (k : Bool) (x y : Int) : pr (!k) x y = pr k y x := by cases k <;> rfl

theorem WrapC.turn_iff {w t : Nat} {E : List Nat} (hw : 1 ≤ w) (ht : 1 ≤ t) (hE : ∀ e ∈ E, e < 2 * (w * t)) {a : Nat} (ha : a < w * t) (k : Bool) : WrapC (eR w t E) a k ↔ WrapC (eR t w (E.map (turnE w t))) (tau w t a) (!k) := by
  constructor
  · intro ⟨x, y, h, hk⟩; exact ⟨y, x, (Wk.turn_iff hw ht hE ha ha).1 h, by rw [pr_not]; exact hk⟩
  · intro ⟨x, y, h, hk⟩; exact ⟨y, x, (Wk.turn_iff hw ht hE ha ha).2 h, by rw [pr_not] at hk; exact hk⟩

theorem compN_turn {w t : Nat} (hw : 1 ≤ w) (ht : 1 ≤ t) : ∀ (E : List Nat), (∀ e ∈ E, e < 2 * (w * t)) → compN (w * t) (eR w t E) = compN (w * t) (eR t w (E.map (turnE w t)))
  | [], _ => by rw [List.map_nil, compN_nil, compN_nil]
  | e :: E, h => by
    have hE : ∀ f ∈ E, f < 2 * (w * t) := fun f hf => h f (List.mem_cons_of_mem _ hf)
    have he := h e List.mem_cons_self
    have ih := compN_turn hw ht E hE
    have hv : e / 2 < w * t := by omega
    have hz := toV_lt (D := e % 2) hw ht hv
    obtain ⟨_, a1, a2, _⟩ := (TI.eR hw ht E hE).add hv hz (st_le (e % 2))
    rw [addE_eR] at a1 a2
    have hm : ∀ f ∈ E.map (turnE w t), f < 2 * (t * w) := fun f hf => by
      obtain ⟨g, hg, rfl⟩ := List.mem_map.1 hf
      exact turnE_lt hw (hE g hg)
    have he' := turnE_lt hw he
    have h1 : turnE w t e / 2 = tau w t (e / 2) := by unfold turnE; omega
    have h2 : turnE w t e % 2 = 1 - e % 2 := by unfold turnE; omega
    have hv' : turnE w t e / 2 < t * w := by omega
    have hz' := toV_lt (D := turnE w t e % 2) ht hw hv'
    obtain ⟨_, b1, b2, _⟩ := (TI.eR ht hw _ hm).add hv' hz' (st_le (turnE w t e % 2))
    rw [addE_eR] at b1 b2
    have cc := Conn.turn_iff hw ht hE hv hz
    rw [← tau_toV hw ht hv (by omega), ← h1, ← h2] at cc
    rw [Nat.mul_comm t w] at b1 b2
    rw [List.map_cons]
    by_cases q : Conn (eR w t E) (e / 2) (toV w t (e / 2) (e % 2))
    · have := a1 q; have := b1 (cc.1 q); omega
    · have := a2 q; have := b2 (fun k => q (cc.2 k)); omega

theorem g_law30_WrappingTurn_true (a0 a1 : Int) (s : Sl) (a3 a4 : Int) (h : Hp) (K : Bool → Hp → Prop) (w0 : 0 ≤ a0 ∧ a0 ≤ 255) (w1 : 0 ≤ a1 ∧ a1 ≤ 255) {M2 : List Value} (hr : Rd h 1 s M2) (hy : s.n ≤ 2 ^ 63 - 1)
    (hm : ∀ i j l, i < s.n → (List.replicate 1 (LK.int .u16))[j]? = some l → ∃ v, M2[i * 1 + j]? = some v ∧ okCell l v) (w3 : 0 ≤ a3 ∧ a3 ≤ 255) (w4 : 0 ≤ a4 ∧ a4 ≤ 255) (hK : ∀ h', K true h') : g_law30_WrappingTurn a0 a1 s a3 a4 h K := by
  obtain ⟨l, rfl, hl⟩ := kints_of (.inr rfl) hr.len hm
  obtain ⟨A, rfl⟩ : ∃ A : Nat, a0 = A := ⟨a0.toNat, by omega⟩
  obtain ⟨B, rfl⟩ : ∃ B : Nat, a1 = B := ⟨a1.toNat, by omega⟩
  obtain ⟨i, rfl⟩ : ∃ i : Nat, a3 = i := ⟨a3.toNat, by omega⟩
  obtain ⟨j, rfl⟩ : ∃ j : Nat, a4 = j := ⟨a4.toNat, by omega⟩
  unfold g_law30_WrappingTurn
  refine sizes_spec (by omega) (by omega) _ _ ?_
  obtain ⟨w, hw⟩ : ∃ w, w = 1 + A % 12 := ⟨_, rfl⟩
  obtain ⟨t, ht⟩ : ∃ t, t = 1 + B % 12 := ⟨_, rfl⟩
  rw [← hw, ← ht]
  have hw1 : 1 ≤ w ∧ w ≤ 12 := by omega
  have ht1 : 1 ≤ t ∧ t ≤ 12 := by omega
  clear hw ht
  have hn : w * t ≤ 144 := Nat.mul_le_mul hw1.2 ht1.2
  have hn1 : 1 ≤ w * t := Nat.mul_le_mul hw1.1 ht1.1
  have e1 : IntKind.i64.wrap ((w : Int) * t) = ((w * t : Nat) : Int) := by rw [← Int.natCast_mul, w64n (by omega)]
  have hi : i % (w * t) < w * t := Nat.mod_lt _ hn1
  have hj : j % (w * t) < w * t := Nat.mod_lt _ hn1
  simp only [w64, e1, idx_ok (show i < 256 by omega) hn1 (by omega), idx_ok (show j < 256 by omega) hn1 (by omega)]
  generalize i % (w * t) = i at *
  generalize j % (w * t) = j at *
  clear w3 w4
  have tu : ∀ v : Nat, v < w * t → IntKind.i64.wrap (IntKind.i64.wrap (((v % w : Nat) : Int) * t) + ((v / w : Nat) : Int)) = ((tau w t v : Nat) : Int) := fun v hv => by
    have hl := tau_lt hw1.1 hv
    have hp : v % w * t ≤ tau w t v := Nat.le_add_right _ _
    rw [← Int.natCast_mul, w64n (Nat.le_trans hp (by omega)), ← Int.natCast_add, w64n (show v % w * t + v / w ≤ 2 ^ 60 from Nat.le_trans (Nat.le_of_lt hl) (by omega))]; rfl
  simp only [nat_mod, nat_div i w (by omega), nat_div j w (by omega), tu i hi, tu j hj]
  refine New_e w t ⟨hw1.1, ht1.1, by omega⟩ _ _ fun h6 o d6 hlo f6 => New_e t w ⟨ht1.1, hw1.1, by rw [Nat.mul_comm]; omega⟩ _ _ fun h9 o' d9 hlo' f9 => cnd_f rfl (cnd_f rfl ?_)
  have q6 := d6.wt1; have q9 := d9.wt1
  have z6 := f6.size; have z9 := f9.size
  have d69 := d6.fr f9
  refine edges_spec hn1 (by omega) hl false ((hr.fr f6).fr ⟨f9.size, f9.blk⟩) (by have := hr.len; rw [kints_len] at this; omega) _ fun s1 h11 M1 l1 f11 i1 o1 _ n1 => ?_
  have z11 := f11.size
  have hM1 : ∀ e ∈ M1, e < 2 * (w * t) := fun e he => bE_lt hn1 ((i1 e).1 he)
  have hsn : s1.n = M1.length := by have := l1.1; rw [ints_len, nats_len] at this; omega
  refine jn_of (fun s' g => Fr h11.size h11 g ∧ Lst g 1 s'.1 (ints (nats (M1.map (turnE w t)))) h11.size) ?_ fun K14 hK14 => ?_
  case refine_2 =>
    refine for_of M1.length (fun k (s' : Sl × Int × Unit) g => s'.2.1 = (k : Int) ∧ Fr h11.size h11 g ∧ Lst g 1 s'.1 (ints (nats ((M1.take k).map (turnE w t)))) h11.size) ?_ ⟨rfl, Fr.refl _ _, Lst.nil _ _ _⟩
    rintro k Kr ⟨s2, _, u⟩ g hk ⟨rfl, fg, lg⟩ hKr
    refine cnd_of (fun c => ?_) fun c => ?_
    · simp only [decide_eq_true_eq, hsn, Int.ofNat_eq_natCast] at c
      have hkl : k < M1.length := by omega
      have hrg := l1.rd.fr fg
      have he := hM1 (M1.getD k 0) (by rw [List.getD, List.getElem?_eq_getElem hkl]; exact List.getElem_mem hkl)
      generalize hek : M1.getD k 0 = e at *
      dsimp only
      refine ix_ld1 hrg (by omega) (by rw [hsn]; omega) rfl ⟨by omega, by omega, by omega, ix_ld1 hrg (by omega) (by rw [hsn]; omega) rfl ⟨by omega, ?_⟩⟩
      rw [show Int.toNat (k : Int) = k from rfl, nats_getD, hek]
      have t1 : IntKind.i64.wrap (Int.tdiv (e : Int) 2) = ((e / 2 : Nat) : Int) := nat_div e 2 (by omega)
      have t4 : Int.tmod (e : Int) 2 = ((e % 2 : Nat) : Int) := nat_mod e 2
      have hv : e / 2 < w * t := by omega
      simp only [t1, t4, nat_mod, nat_div (e / 2) w (by omega), tu (e / 2) hv]
      have htl := tau_lt hw1.1 hv
      have v1 : IntKind.i64.wrap (2 * ((tau w t (e / 2) : Nat) : Int)) = ((2 * tau w t (e / 2) : Nat) : Int) := by rw [w64_eq (by omega) (by omega)]; omega
      have v2 : IntKind.i64.wrap (((2 * tau w t (e / 2) : Nat) : Int) + 1) = ((2 * tau w t (e / 2) + 1 : Nat) : Int) := by rw [w64_eq (by omega) (by omega)]; omega
      have v3 : IntKind.i64.wrap (((2 * tau w t (e / 2) + 1 : Nat) : Int) - ((e % 2 : Nat) : Int)) = ((turnE w t e : Nat) : Int) := by rw [w64_eq (by omega) (by omega)]; unfold turnE; omega
      rw [v1, v2, v3]
      have hsk : s2.n = k := by have : s2.n * 1 = _ := lg.1; rw [ints_len, nats_len, List.length_map, List.length_take] at this; omega
      refine app1_spec lg (by have := fg.size; omega) (by omega) fun s3 h3 l3 z3 k3 => hKr hkl _ _ ⟨?_, ⟨by have := fg.size; omega, fun c hc => ?_⟩, ?_⟩
      · simp only; rw [w64_eq (by omega) (by omega)]; omega
      · rw [(k3 c (by have := fg.size; omega) (fun x hx => by have := (lg.blk_lt hx).1; omega)).1, fg.blk _ hc]
      · have : (M1.take (k + 1)).map (turnE w t) = (M1.take k).map (turnE w t) ++ [turnE w t e] := by
          rw [List.take_add_one, List.getElem?_eq_getElem hkl, List.map_append, ← hek, List.getD, List.getElem?_eq_getElem hkl]; rfl
        rw [this, nats_app]; exact l3
    · simp only [decide_eq_false_iff_not, hsn, Int.ofNat_eq_natCast] at c
      have : k = M1.length := by omega
      subst this
      rw [List.take_of_length_le (Nat.le_refl _)] at lg
      exact hK14 _ _ ⟨fg, lg.eta⟩
  rintro ⟨s2, u⟩ h13 ⟨f13, l2⟩
  have z13 := f13.size
  refine put_spec ((d69.fr f11).fr f13) (l1.rd.fr f13) hM1 (by omega) (fun x hx => by have := (l1.blk_lt hx).1; omega) false _ fun h16 E1 c1 d16 f16 mE1 hc1 => ?_
  have z16 := f16.size
  have mT : ∀ e ∈ M1.map (turnE w t), e < 2 * (t * w) := fun e he => by
    obtain ⟨f, hf, rfl⟩ := List.mem_map.1 he
    exact turnE_lt hw1.1 (hM1 f hf)
  have l2' : Rd h16 1 ⟨s2.a, s2.n, s2.c⟩ (ints (nats (M1.map (turnE w t)))) := by
    refine (l2.keep f16.size fun x hx => f16.blk _ (l2.blk_lt hx).2.1 (.inr (by have := (l2.blk_lt hx).1; omega))).rd
  refine put_spec (((d9.fr f11).fr f13).other f16 (.inr (by omega))) l2' mT (by rw [List.length_map]; omega) (fun x hx => by have := (l2.blk_lt hx).1; omega) false _ fun h18 E2 c2 d18 f18 mE2 hc2 => ?_
  have z18 := f18.size
  have g18 : TS h18 o w t (eR w t E1) := d16.other f18 (.inl (by omega))
  have hE1 : ∀ e ∈ E1, e < 2 * (w * t) := fun e he => by
    rcases (mE1 e).1 he with q | q
    · cases q
    · exact hM1 e q
  have hE : eR t w E2 = eR t w (E1.map (turnE w t)) := eR_congr fun e => by
    rw [mE2]
    constructor
    · rintro (q | q)
      · cases q
      · obtain ⟨f, hf, rfl⟩ := List.mem_map.1 q
        exact List.mem_map_of_mem ((mE1 f).2 (.inr hf))
    · intro q
      obtain ⟨f, hf, rfl⟩ := List.mem_map.1 q
      rcases (mE1 f).1 hf with q | q
      · cases q
      · exact .inr (List.mem_map_of_mem q)
  rw [hE] at d18 hc2
  rw [Nat.mul_comm t w] at hc2
  rw [compN_nil] at hc1 hc2
  have hcc := compN_turn hw1.1 ht1.1 E1 hE1
  have tr : ∀ k, (∃ v, v < w * t ∧ WrapC (eR w t E1) v k) ↔ ∃ v, v < t * w ∧ WrapC (eR t w (E1.map (turnE w t))) v (!k) := fun k => by
    constructor
    · intro ⟨v, hv, q⟩
      exact ⟨_, by rw [Nat.mul_comm t w]; exact tau_lt hw1.1 hv, (WrapC.turn_iff hw1.1 ht1.1 hE1 hv k).1 q⟩
    · intro ⟨v, hv, q⟩
      have hv' : tau t w v < w * t := by rw [Nat.mul_comm w t]; exact tau_lt ht1.1 hv
      refine ⟨tau t w v, hv', (WrapC.turn_iff hw1.1 ht1.1 hE1 hv' k).2 ?_⟩
      rw [tau_tau ht1.1 hv]; exact q
  refine ⟨by omega, by omega, Wraps_e g18 _ fun b0 b1 w0 w1 => Wraps_e d18 _ fun b2 b3 w2 w3 => ?_⟩
  have w0 : b0 = true ↔ _ := w0
  have w1 : b1 = true ↔ _ := w1
  have w2 : b2 = true ↔ _ := w2
  have w3 : b3 = true ↔ _ := w3
  have x03 : b0 = b3 := by rw [Bool.eq_iff_iff, w0, w3]; exact tr false
  have x12 : b1 = b2 := by rw [Bool.eq_iff_iff, w1, w2]; exact tr true
  refine Offset_e g18 _ _ _ fun h28 x1 y1 k1 g28 f28 v1 => ⟨by omega, by omega, by omega, by omega, ?_⟩
  have z28 := f28.size
  refine Offset_e (d18.other f28 (.inr (by omega))) _ _ _ fun h32 x2 y2 k2 d32 f32 v2 => ?_
  have hti := tau_lt hw1.1 hi
  have htj := tau_lt hw1.1 hj
  have nwr : (∀ k, ¬ WrapC (eR w t E1) i k) ↔ ∀ k, ¬ WrapC (eR t w (E1.map (turnE w t))) (tau w t i) k := by
    constructor
    · intro q k r
      refine q (!k) ((WrapC.turn_iff hw1.1 ht1.1 hE1 hi (!k)).2 ?_)
      rw [Bool.not_not]; exact r
    · intro q k r
      exact q _ ((WrapC.turn_iff hw1.1 ht1.1 hE1 hi k).1 r)
  have hof : x1 = y2 ∧ y1 = x2 ∧ k1 = k2 := by
    cases q1 : k1 with
    | true =>
      obtain ⟨_, _, g3, g4⟩ := v1.tt q1
      have g5 := (Wk.turn_iff hw1.1 ht1.1 hE1 hi hj).1 g4
      cases q2 : k2 with
      | true =>
        obtain ⟨_, _, f3, f4⟩ := v2.tt q2
        obtain ⟨e1, e2⟩ := f4.uniq f3 g5
        exact ⟨e2.symm, e1.symm, rfl⟩
      | false => exact absurd ⟨by rw [Nat.mul_comm t w]; exact hti, by rw [Nat.mul_comm t w]; exact htj, ⟨_, _, g5⟩, nwr.1 g3⟩ (v2.ff q2).2.2
    | false =>
      obtain ⟨e1, e2, g3⟩ := v1.ff q1
      cases q2 : k2 with
      | true =>
        obtain ⟨_, _, f3, f4⟩ := v2.tt q2
        exact absurd ⟨hi, hj, ⟨_, _, (Wk.turn_iff hw1.1 ht1.1 hE1 hi hj).2 f4⟩, nwr.2 f3⟩ g3
      | false =>
        obtain ⟨f1, f2, _⟩ := v2.ff q2
        exact ⟨by omega, by omega, rfl⟩
  obtain ⟨rfl, rfl, rfl⟩ := hof
  have z32 := f32.size
  have ecc : c1 = c2 := by omega
  subst ecc
  refine cnd_t (by simp) (cnd_t (by simp) (cnd_t (by rw [x03]; simp) (cnd_t (by rw [x12]; simp) (cnd_t (by simp) (cnd_t (by simp) (cnd_t (by simp) ?_))))))
  refine Count_e (g28.other f32 (.inl (by omega))) _ (Count_e d32 _ (cnd_t ?_ (works_spec _ _ fun h' _ => hK h')))
  rw [Nat.mul_comm t w, hcc]; simp

end Go.Hx
