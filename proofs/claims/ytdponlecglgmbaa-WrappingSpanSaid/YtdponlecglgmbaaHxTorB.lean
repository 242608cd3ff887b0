/- Adding edges to tori, over the abstract heap. No condition. -/
import Derived.Test.YtdponlecglgmbaaHxTor
namespace Go.Hx
set_option linter.unusedSimpArgs false
set_option linter.unusedVariables false

/-! ### Vertices and edges -/

def toV (w t v D : Nat) : Nat := if D = 0 then v / w * w + (v % w + 1) % w else (v / w + 1) % t * w + v % w
def stX (D : Nat) : Int := if D = 0 then 1 else 0
def stY (D : Nat) : Int := if D = 0 then 0 else 1

theorem vtx_lt {w t X Y : Nat} (hX : X < w) (hY : Y < t) : Y * w + X < w * t := by
  have : (Y + 1) * w ≤ t * w := Nat.mul_le_mul_right _ (by omega)
  rw [Nat.add_mul, Nat.mul_comm t w] at this
  omega

theorem vtx_mod {w X Y : Nat} (hX : X < w) : (Y * w + X) % w = X := by
  rw [Nat.mul_comm, Nat.mul_add_mod, Nat.mod_eq_of_lt hX]
theorem vtx_div {w X Y : Nat} (hX : X < w) : (Y * w + X) / w = Y := by
  rw [Nat.mul_comm, Nat.mul_add_div (by omega), Nat.div_eq_of_lt hX, Nat.add_zero]

theorem toV_lt {w t v D : Nat} (hw : 1 ≤ w) (ht : 1 ≤ t) (hv : v < w * t) : toV w t v D < w * t := by
  have h1 : v % w < w := Nat.mod_lt _ (by omega)
  have h2 : v / w < t := (Nat.div_lt_iff_lt_mul (by omega)).2 (by rw [Nat.mul_comm]; exact hv)
  unfold toV
  split
  · exact vtx_lt (Nat.mod_lt _ (by omega)) h2
  · exact vtx_lt h1 (Nat.mod_lt _ (by omega))

theorem st_le (D : Nat) (k : Bool) : -1 ≤ pr k (stX D) (stY D) ∧ pr k (stX D) (stY D) ≤ 1 := by
  unfold stX stY
  cases k <;> simp only [pr] <;> split <;> omega

/-- The blocks outside some bounds are kept. -/
structure FrO (o : TOb) (h h' : Hp) : Prop where
  size : h.size ≤ h'.size
  blk : ∀ c, c < h.size → (c < o.lo ∨ o.hi ≤ c) → h'.blk c = h.blk c

theorem FrO.refl (o : TOb) (h : Hp) : FrO o h h := ⟨Nat.le_refl _, fun _ _ _ => rfl⟩
theorem FrO.trans {o : TOb} {h h' h'' : Hp} (a : FrO o h h') (b : FrO o h' h'') : FrO o h h'' :=
  ⟨Nat.le_trans a.size b.size, fun c hc ho => (b.blk c (by have := a.size; omega) ho).trans (a.blk c hc ho)⟩
theorem Fr.frO {o : TOb} {h h' : Hp} (f : Fr h.size h h') : FrO o h h' := ⟨f.size, fun c hc _ => f.blk c hc⟩

section
variable {h : Hp} {o : TOb} {w t : Nat} {R : ER} {par siz : List Nat} {M : List Int} {W : List Bool} {a0 a1 : Bool} {cnt : Nat} {L lea : List Nat} {rk : Nat → Nat} {P : Bool → Nat → Int}

theorem FrT.frO {h' : Hp} (d : TSx h o w t R par siz M W a0 a1 cnt L lea rk P) (f : FrT o h h') : FrO o h h' :=
  ⟨f.size, fun c hc ho => f.blk c hc (by have := d.ip; omega) (by have := d.iq; omega)⟩

/-- What a torus is to its users. -/
def TS (h : Hp) (o : TOb) (w t : Nat) (R : ER) : Prop := ∃ par siz M W a0 a1 cnt L lea rk P, TSx h o w t R par siz M W a0 a1 cnt L lea rk P

theorem TS.fr {h' : Hp} (d : TS h o w t R) (f : Fr h.size h h') : TS h' o w t R := by
  obtain ⟨par, siz, M, W, a0, a1, cnt, L, lea, rk, P, d⟩ := d
  exact ⟨par, siz, M, W, a0, a1, cnt, L, lea, rk, P, d.fr f⟩

theorem w64n {n : Nat} (h : n ≤ 2 ^ 60) : IntKind.i64.wrap (n : Int) = n := w64_eq (by omega) (by omega)

/-- The loop that notes in which directions a component wraps. -/
theorem Add_spec (d : TSx h o w t R par siz M W a0 a1 cnt L lea rk P) (x y dir : Int) (K : Bool → Int → Hp → Prop)
    (hbad : ¬ (0 ≤ x ∧ x < w ∧ 0 ≤ y ∧ y < t) → K false 3 h) (harg : 0 ≤ x ∧ x < w ∧ 0 ≤ y ∧ y < t → ¬ (dir = 0 ∨ dir = 1) → K false 2 h)
    (hok : ∀ X Y D : Nat, x = X → y = Y → dir = D → X < w → Y < t → D ≤ 1 → ∀ h' b, TS h' o w t (addE R (Y * w + X) (toV w t (Y * w + X) D) (stX D) (stY D)) → FrO o h h' →
      (b = true ↔ ¬ Conn R (Y * w + X) (toV w t (Y * w + X) D)) → compN (w * t) (addE R (Y * w + X) (toV w t (Y * w + X) D) (stX D) (stY D)) + (if b then 1 else 0) = compN (w * t) R → K b 0 h') : g_wrapping_Torus_Add (some ⟨o.a, 0, none⟩) x y dir h K := by
  have hn := d.wt; have hw1 := d.w1; have ht1 := d.t1
  have hwn : w ≤ w * t := Nat.le_mul_of_pos_right _ ht1
  have htn : t ≤ w * t := Nat.le_mul_of_pos_left _ hw1
  have ia := d.ia; have ip := d.ip; have iq := d.iq; have hhi := d.hi
  unfold g_wrapping_Torus_Add
  refine jn_of (fun s h2 => s.1 = false ∧ h2 = h) ?_ fun K3 hK3 => cnd_f rfl (nn_of ?_)
  case refine_2 =>
    simp only [add_mk, Nat.zero_add]
    refine ldI_of (by rw [d.cell]; rfl) (hK3 _ _ ⟨?_, rfl⟩)
    simp only [beq_eq_false_iff_ne]; omega
  rintro ⟨b, u⟩ h2 ⟨rfl, rfl⟩
  refine cnd_f rfl ?_
  refine jn_of (fun s h5 => h5 = h2 ∧ (s.1 = true ↔ ¬ (0 ≤ x ∧ x < w ∧ 0 ≤ y ∧ y < t))) ?_ fun K6 hK6 => ?_
  case refine_2 =>
    refine cnd_of (fun c => hK6 _ _ ⟨rfl, ?_⟩) fun c => nn_of ?_
    · simp only [decide_eq_true_eq] at c; simp; omega
    simp only [add_mk, Nat.zero_add]
    refine ldI_of (by rw [d.cell]; rfl) (cnd_of (fun c' => hK6 _ _ ⟨rfl, ?_⟩) fun c' => cnd_of (fun c2 => hK6 _ _ ⟨rfl, ?_⟩) fun c2 => nn_of ?_)
    · simp only [decide_eq_true_eq] at c'; simp; omega
    · simp only [decide_eq_true_eq] at c2; simp; omega
    simp only [add_mk, Nat.zero_add]
    refine ldI_of (by rw [d.cell]; rfl) (hK6 _ _ ⟨rfl, ?_⟩)
    simp only [decide_eq_true_eq, decide_eq_false_iff_not] at *
    omega
  rintro ⟨b, u⟩ h5 ⟨rfl, hb⟩
  simp only at hb
  refine cnd_of (fun c => hbad (hb.1 c)) fun c => ?_
  have hg : 0 ≤ x ∧ x < w ∧ 0 ≤ y ∧ y < t := Classical.byContradiction fun k => by rw [hb.2 k] at c; cases c
  refine cnd_of (fun c => harg hg (by simp only [decide_eq_true_eq] at c; omega)) fun c1 => cnd_of (fun c => harg hg (by simp only [decide_eq_true_eq] at c; omega)) fun c2 => ?_
  simp only [decide_eq_false_iff_not] at c1 c2
  obtain ⟨X, rfl⟩ : ∃ X : Nat, x = X := ⟨x.toNat, by omega⟩
  obtain ⟨Y, rfl⟩ : ∃ Y : Nat, y = Y := ⟨y.toNat, by omega⟩
  obtain ⟨D, rfl⟩ : ∃ D : Nat, dir = D := ⟨dir.toNat, by omega⟩
  have hX : X < w := by omega
  have hY : Y < t := by omega
  have hD : D ≤ 1 := by omega
  have hv := vtx_lt hX hY
  have hto := toV_lt (D := D) hw1 ht1 hv
  have hok := hok X Y D rfl rfl rfl hX hY hD
  have mX := vtx_mod (Y := Y) hX
  have dX := vtx_div (Y := Y) hX
  clear hbad harg hb hg
  generalize hvv : Y * w + X = v at *
  generalize htt : toV w t v D = z at *
  have e1 : IntKind.i64.wrap ((Y : Int) * w) = ((Y * w : Nat) : Int) := by rw [← Int.natCast_mul, w64n (by omega)]
  have e2 : IntKind.i64.wrap (((Y * w : Nat) : Int) + X) = (v : Int) := by rw [← Int.natCast_add, hvv, w64n (by omega)]
  refine nn_of ?_
  simp only [add_mk, Nat.zero_add, Nat.add_zero]
  refine ldI_of (by rw [d.cell]; rfl) (nn_of ?_)
  simp only [add_mk, Nat.zero_add, Nat.add_zero]
  refine ldI_of (by rw [d.cell]; rfl) (nn_of ?_)
  simp only [add_mk, Nat.zero_add, Nat.add_zero]
  refine ldI_of (by rw [d.cell]; rfl) ⟨by omega, alo_of fun h14 z14 b14 k14 => ?_⟩
  have d14 := d.fr (h' := h14) ⟨by omega, k14⟩
  refine ⟨by rw [d14.cell]; rfl, by rw [d14.cell]; rfl, by rw [d14.cell]; rfl, ?_⟩
  simp only [add_mk, Nat.zero_add, Nat.add_zero]
  refine stc_of b14 (by simp) fun h15 z15 b15 k15 => stc_of b15 (by simp) fun h16 z16 b16 k16 => ?_
  simp only [List.set_cons_zero, List.set_cons_succ] at b16
  have f16 : Fr h5.size h5 h16 := ⟨by omega, fun c hc => by rw [k16 _ (by omega), k15 _ (by omega), k14 _ hc]⟩
  have d16 := d.fr f16
  refine jn_of (fun s h18 => s.1 = (z : Int) ∧ Fr h5.size h5 h18 ∧ h5.size < h18.size ∧ h18.blk h5.size = some (.cells [.int .i64 (stX D), .int .i64 (stY D)])) ?_ fun K19 hK19 => ?_
  case refine_2 =>
    refine cnd_of (fun c => ?_) fun c => ?_
    · have hD1 : D = 1 := by simp only [beq_iff_eq] at c; omega
      subst hD1
      refine nn_of ?_
      simp only [add_mk, Nat.zero_add, Nat.add_zero]
      refine ldI_of (by rw [d16.cell]; rfl) ⟨by omega, nn_of ?_⟩
      simp only [add_mk, Nat.zero_add, Nat.add_zero]
      refine ldI_of (by rw [d16.cell]; rfl) (stc_of b16 (by simp) fun h17 z17 b17 k17 => stc_of b17 (by simp) fun h18 z18 b18 k18 => hK19 _ _ ⟨?_, ⟨by omega, fun c hc => by rw [k18 _ (by omega), k17 _ (by omega), f16.blk _ hc]⟩, by omega, b18⟩)
      have a1 : IntKind.i64.wrap ((Y : Int) + 1) = ((Y + 1 : Nat) : Int) := by rw [← w64n (n := Y + 1) (by omega)]; rfl
      have hm : (Y + 1) % t < t := Nat.mod_lt _ ht1
      have hm2 := vtx_lt hX hm
      have a2 : Int.tmod ((Y + 1 : Nat) : Int) (t : Int) = ((Y + 1) % t : Nat) := by rw [Int.tmod_eq_emod_of_nonneg (by omega), ← Int.natCast_emod]
      simp only [w64, a1, a2]
      rw [← Int.natCast_mul, w64n (by omega), ← Int.natCast_add, w64n (by omega), ← htt]
      simp [toV, mX, dX]
    · have hD1 : D = 0 := by simp only [beq_eq_false_iff_ne] at c; omega
      subst hD1
      refine hK19 _ _ ⟨?_, f16, by omega, b16⟩
      have a1 : IntKind.i64.wrap ((X : Int) + 1) = ((X + 1 : Nat) : Int) := by rw [← w64n (n := X + 1) (by omega)]; rfl
      have hm : (X + 1) % w < w := Nat.mod_lt _ hw1
      have hm2 := vtx_lt hm hY
      have a2 : Int.tmod ((X + 1 : Nat) : Int) (w : Int) = ((X + 1) % w : Nat) := by rw [Int.tmod_eq_emod_of_nonneg (by omega), ← Int.natCast_emod]
      simp only [w64, a1, a2, e1]
      rw [← Int.natCast_add, w64n (by omega), ← htt]
      simp [toV, mX, dX]
  rintro ⟨zz, u⟩ h18 ⟨rfl, f18, s18, b18⟩
  simp only [w64, e1, e2]
  have d18 := d.fr f18
  refine find_spec d18 hv _ fun h23 par1 M1 A d23 f23 hA rA lA rt1 => ?_
  have b23 : h23.blk h5.size = some (.cells [.int .i64 (stX D), .int .i64 (stY D)]) := by rw [f23.blk _ s18 (by omega) (by omega), b18]
  have g23 : FrO o h5 h23 := (Fr.frO f18).trans (f23.frO d18)
  have z23 := f23.size
  refine alo_of fun h25 z25 b25 k25 => ?_
  simp only [add_mk, Nat.zero_add, Nat.add_zero]
  refine stc_of b25 (by simp) fun h26 z26 b26 k26 => stc_of b26 (by simp) fun h27 z27 b27 k27 => ?_
  simp only [List.set_cons_zero, List.set_cons_succ] at b27
  have f27 : Fr h23.size h23 h27 := ⟨by omega, fun c hc => by rw [k27 _ (by omega), k26 _ (by omega), k25 _ hc]⟩
  have d27 := d23.fr f27
  refine find_spec d27 hto _ fun h31 par2 M2 B d31 f31 hB rB lB rt2 => ?_
  have z31 := f31.size
  have i23 : o.hi ≤ h23.size := by omega
  have b31 : h31.blk h5.size = some (.cells [.int .i64 (stX D), .int .i64 (stY D)]) := by rw [f31.blk _ (by omega) (by omega) (by omega), f27.blk _ (by omega), b23]
  have c31 : h31.blk h23.size = some (.cells [.int .i64 (P false v), .int .i64 (P true v)]) := by rw [f31.blk _ (by omega) (by omega) (by omega), b27]
  have g31 : FrO o h5 h31 := (g23.trans (Fr.frO f27)).trans (f31.frO d27)
  have rA2 := rt2 A hA rA
  refine alo_of fun h33 z33 b33 k33 => ?_
  simp only [add_mk, Nat.zero_add, Nat.add_zero]
  refine stc_of b33 (by simp) fun h34 z34 b34 k34 => stc_of b34 (by simp) fun h35 z35 b35 k35 => ?_
  simp only [List.set_cons_zero, List.set_cons_succ] at b35
  have f35 : Fr h31.size h31 h35 := ⟨by omega, fun c hc => by rw [k35 _ (by omega), k34 _ (by omega), k33 _ hc]⟩
  have d35 := d31.fr f35
  have g35 := g31.trans (Fr.frO f35)
  have hbv := d.inv.bound hv; have hbz := d.inv.bound hto
  have bv0 := hbv false; have bv1 := hbv true; have bz0 := hbz false; have bz1 := hbz true
  have st0 := st_le D false; have st1 := st_le D true
  simp only [pr] at st0 st1
  -- the walk from the one root over the edge to the other
  refine jn_of (fun s h37 => ∃ c, s.1 = ⟨c, 0, none⟩ ∧ h35.size ≤ c ∧ c < h37.size ∧ Fr h35.size h35 h37 ∧ h37.blk c = some (.cells [.int .i64 (stX D + P false z - P false v), .int .i64 (stY D + P true z - P true v)])) ?_ fun K38 hK38 => ?_
  case refine_2 =>
    have w5 : h35.blk h5.size = some (.cells [.int .i64 (stX D), .int .i64 (stY D)]) := by rw [f35.blk _ (by omega), b31]
    have w23 : h35.blk h23.size = some (.cells [.int .i64 (P false v), .int .i64 (P true v)]) := by rw [f35.blk _ (by omega), c31]
    have x1 : IntKind.i64.wrap (stX D + P false z) = stX D + P false z := w64_eq (by omega) (by omega)
    have x2 : IntKind.i64.wrap (stY D + P true z) = stY D + P true z := w64_eq (by omega) (by omega)
    have x3 : IntKind.i64.wrap (stX D + P false z - P false v) = stX D + P false z - P false v := w64_eq (by omega) (by omega)
    have x4 : IntKind.i64.wrap (stY D + P true z - P true v) = stY D + P true z - P true v := w64_eq (by omega) (by omega)
    have fin : ∀ H a : Hp, Fr h35.size h35 H → a.size = H.size + 1 → a.blk H.size = some (.cells [.int .i64 0, .int .i64 0]) → (∀ c, c < H.size → a.blk c = H.blk c) → ∀ G, Fr a.size a G →
        stc G ⟨H.size, 0, none⟩ (.int .i64 (stX D + P false z - P false v)) fun h133 => stc h133 ⟨H.size, 0 + 1, none⟩ (.int .i64 (stY D + P true z - P true v)) fun h134 => K38 (⟨H.size, 0, none⟩, ()) h134 := by
      intro H a fH za ba ka G fG
      have zH := fH.size
      have zG := fG.size
      have hGb : G.blk H.size = some (.cells [.int .i64 0, .int .i64 0]) := by rw [fG.blk _ (by omega), ba]
      refine stc_of hGb (by simp) fun h1 z1 b1 k1 => stc_of b1 (by simp) fun h2 z2 b2 k2 => hK38 _ _ ⟨H.size, rfl, by omega, by omega, ⟨by omega, fun c hc => ?_⟩, b2⟩
      rw [k2 _ (by omega), k1 _ (by omega), fG.blk _ (by omega), ka _ (by omega), fH.blk _ hc]
    refine ldI_of (by rw [cell_own w5]; rfl) (ldI_of (by rw [cell_own w5]; rfl) (ldI_of (by rw [cell_own b35]; rfl) (ldI_of (by rw [cell_own b35]; rfl) (ldI_of (by rw [cell_own w23]; rfl) (ldI_of (by rw [cell_own w23]; rfl) ⟨?_, ?_⟩)))))
    · refine plus_spec _ _ _ _ _ _ fun H fH => ?_
      have zH := fH.size
      have v23 : H.blk h23.size = some (.cells [.int .i64 (P false v), .int .i64 (P true v)]) := by rw [fH.blk _ (by omega), w23]
      refine ⟨by rw [cell_own v23]; rfl, by rw [cell_own v23]; rfl, minus_spec _ _ _ _ _ _ fun G fG => alo_of fun a za ba ka => ?_, alo_of fun a za ba ka => ⟨?_, ?_, minus_spec _ _ _ _ _ _ fun G fG => ?_⟩⟩
      · simp only [w64, x1, x2, x3, x4, add_mk]
        exact fin G a (⟨by have := fG.size; omega, fun c hc => by rw [fG.blk _ (by omega), fH.blk _ hc]⟩) za ba ka a (Fr.refl _ _)
      · rw [cell_own ((ka _ (by omega)).trans v23)]; rfl
      · rw [cell_own ((ka _ (by omega)).trans v23)]; rfl
      · simp only [w64, x1, x2, x3, x4, add_mk]
        exact fin H a fH za ba ka G fG
    · refine alo_of fun a za ba ka => ?_
      have u5 := (ka _ (by omega)).trans w5
      have u23 := (ka _ (by omega)).trans w23
      have u35 := (ka _ (by omega)).trans b35
      refine ⟨by rw [cell_own u23]; rfl, by rw [cell_own u23]; rfl, by rw [cell_own u35]; rfl, by rw [cell_own u35]; rfl, by rw [cell_own u5]; rfl, by rw [cell_own u5]; rfl, plus_spec _ _ _ _ _ _ fun H fH => ?_⟩
      have zH := fH.size
      have v23 : H.blk h23.size = some (.cells [.int .i64 (P false v), .int .i64 (P true v)]) := by rw [fH.blk _ (by omega), u23]
      refine ⟨by rw [cell_own v23]; rfl, by rw [cell_own v23]; rfl, minus_spec _ _ _ _ _ _ fun G fG => ?_⟩
      simp only [w64, x1, x2, x3, x4, add_mk]
      exact fin h35 a (Fr.refl _ _) za ba ka G ⟨by have := fG.size; omega, fun c hc => by rw [fG.blk _ (by omega), fH.blk _ hc]⟩
  rintro ⟨_, u⟩ h37 ⟨c, rfl, hc1, hc2, f37, b37⟩
  have d37 := d35.fr f37
  have hi35 := d35.hi
  have zz35 := g35.size
  have g37 := g35.trans (Fr.frO f37)
  have hconn : A = B ↔ Conn R v z := by
    rw [← d.inv.conn hv hto, ← lA, ← lB]
    exact ⟨fun e => by rw [e], fun e => d37.inv.d.uni A B (by rw [d37.inv.nl]; exact hA) (by rw [d37.inv.nl]; exact hB) rA2 rB e⟩
  have ap := d.ap; have aq := d.aq; have ar := d.ar; have as := d.as; have pq := d.pq; have pr' := d.pr; have ps := d.ps; have qr := d.qr; have qs := d.qs; have rs := d.rs
  have ir := d.ir; have is := d.is
  refine jn_of (fun s h40 => h40 = h37 ∧ A ≠ B) ?_ fun K41 hK41 => cnd_of (fun cc => ?_) fun cc => hK41 _ _ ⟨rfl, fun e => by simp only [beq_eq_false_iff_ne] at cc; exact cc (congrArg Int.ofNat e)⟩
  case refine_2 =>
    -- within a component
    have hAB : A = B := by simp only [beq_iff_eq] at cc; exact Int.ofNat.inj cc
    subst hAB
    simp only [add_mk, Nat.zero_add, Nat.add_zero]
    refine ldI_of (by rw [cell_own b37]; rfl) (ldI_of (by rw [cell_own b37]; rfl) ?_)
    have hnc : ¬ ¬ Conn R v z := fun k => k (hconn.1 rfl)
    obtain ⟨ww, hww⟩ : ∃ ww : Nat → Int, ww = fun k => if k = 0 then stX D + P false z - P false v else stY D + P true z - P true v := ⟨_, rfl⟩
    obtain ⟨Wn, hWn⟩ : ∃ Wn : Nat → List Bool, Wn = fun k => (if 1 < k ∧ ww 1 ≠ 0 then (if 0 < k ∧ ww 0 ≠ 0 then W.set (A * 2) true else W).set (A * 2 + 1) true else (if 0 < k ∧ ww 0 ≠ 0 then W.set (A * 2) true else W)) := ⟨_, rfl⟩
    have lWn : ∀ k, (Wn k).length = 2 * (w * t) := fun k => by rw [hWn]; simp only; split <;> split <;> simp [d.lW]
    refine for_of 2 (fun k (s : Int × Unit) g => s.1 = (k : Int) ∧ g.size = h37.size ∧ g.blk o.s = some (.cells (bools (Wn k))) ∧
      g.blk o.a = some (.cells [.int .i64 (w : Nat), .int .i64 (t : Nat), .slice (some ⟨o.p, 0, none⟩) (w * t) (w * t), .slice (some ⟨o.q, 0, none⟩) (w * t) (w * t), .slice (some ⟨o.r, 0, none⟩) (w * t) (w * t), .slice (some ⟨o.s, 0, none⟩) (w * t) (w * t),
        .bool (a0 || decide (0 < k ∧ ww 0 ≠ 0)), .bool (a1 || decide (1 < k ∧ ww 1 ≠ 0)), .int .i64 (cnt : Nat)]) ∧ ∀ b, b ≠ o.s → b ≠ o.a → g.blk b = h37.blk b) ?_ ⟨rfl, rfl, ?_, ?_, fun _ _ _ => rfl⟩
    · rintro k Kr ⟨s, u⟩ g hk ⟨rfl, zg, gs, ga, gk⟩ hKr
      refine cnd_of (fun c3 => ?_) fun c3 => ?_
      · simp only [decide_eq_true_eq] at c3
        have hk2 : k < 2 := by omega
        refine jn_of (fun s g' => s.1 = (k : Int) ∧ s.2.1 = ww k ∧ g' = g) ?_ fun K112 hK112 => ⟨by omega, by omega, fun e => hK112 _ _ ⟨rfl, ?_, rfl⟩, fun e => hK112 _ _ ⟨rfl, ?_, rfl⟩, trivial⟩
        · rintro ⟨s1, s2, u⟩ g' ⟨rfl, rfl, rfl⟩
          have hke : k = 0 ∨ k = 1 := by omega
          refine cnd_of (fun c4 => ?_) fun c4 => ?_
          · have c4 : ww k ≠ 0 := by simpa using c4
            refine nn_of ?_
            simp only [add_mk, Nat.zero_add, Nat.add_zero, Nat.mul_one, show Int.toNat (A : Int) = A from rfl, show Int.toNat (k : Int) = k from rfl]
            refine ldS_of (by rw [cell_own ga]; rfl) (ix_of (by omega) (by first | omega | (simp only; omega)) ⟨by omega, by omega, nn_of ?_⟩)
            simp only [add_mk, Nat.zero_add, Nat.add_zero]
            refine stc_of gs (by rw [bools_len, lWn]; omega) fun g1 z1 b1 k1 => ⟨by omega, by omega, ?_⟩
            have ga1 := (k1 _ as).trans ga
            refine stc_of ga1 (by simp; omega) fun g2 z2 b2 k2 => hKr hk2 _ _ ⟨?_, by omega, ?_, ?_, fun b hb1 hb2 => by rw [k2 _ hb2, k1 _ hb1, gk _ hb1 hb2]⟩
            · simp only [w64]; rw [w64_eq (by omega) (by omega)]; omega
            · rw [k2 _ (by omega), b1, bools_set]
              congr 3
              rw [hWn]
              rcases hke with rfl | rfl
              · simp [c4]
              · simp [c4]
            · rw [b2]
              rcases hke with rfl | rfl
              · simp [c4]
              · simp [c4]
          · have c4 : ww k = 0 := by simpa using c4
            refine hKr hk2 _ _ ⟨?_, zg, ?_, ?_, gk⟩
            · simp only [w64]; rw [w64_eq (by omega) (by omega)]; omega
            · rw [gs, hWn]
              rcases hke with rfl | rfl <;> simp [c4]
            · rw [ga]
              rcases hke with rfl | rfl <;> simp [c4]
        · have : k = 0 := by omega
          subst this; rw [hww]; rfl
        · have : k = 1 := by omega
          subst this; rw [hww]; rfl
      · simp only [decide_eq_false_iff_not] at c3
        have hk2 : k = 2 := by omega
        subst hk2
        have w0 : ww 0 = stX D + P false z - P false v := by rw [hww]; rfl
        have w1 : ww 1 = stY D + P true z - P true v := by rw [hww]; rfl
        have hi := d37.inv.close (a := v) (b := z) (p := stX D) (q := stY D) (r := A) (wr' := wF (Wn 2)) (all' := aF (a0 || decide (0 < 2 ∧ ww 0 ≠ 0)) (a1 || decide (1 < 2 ∧ ww 1 ≠ 0))) hv hto hA rA2 lA lB ?_ ?_
        · refine hok g false ⟨par2, siz, M2, Wn 2, _, _, cnt, L, lea, rk, P, { d37 with
            inv := hi
            hd := ga
            bp := by rw [gk _ ps (Ne.symm ap)]; exact d37.bp
            bq := by rw [gk _ qs (Ne.symm aq)]; exact d37.bq
            br := by rw [gk _ rs (Ne.symm ar)]; exact d37.br
            bs := gs
            lW := lWn 2
            hi := by rw [zg]; exact d37.hi }⟩ ⟨by rw [zg]; exact g37.size, fun b hb1 hb2 => by rw [gk _ (by omega) (by omega), g37.blk _ hb1 hb2]⟩ ⟨fun e => (by cases e), fun e => absurd e hnc⟩ ?_
          have q1 := hi.count; have q2 := d.inv.count
          simp only [Bool.false_eq_true, if_false]; omega
        · intro i k hi
          have lW1 : (if 0 < 2 ∧ ww 0 ≠ 0 then W.set (A * 2) true else W).length = 2 * (w * t) := by split <;> simp [d.lW]
          have e1 : wF (if 0 < 2 ∧ ww 0 ≠ 0 then W.set (A * 2) true else W) i k = (wF W i k || (decide (i = A) && (decide (k = false) && decide (ww 0 ≠ 0)))) := by
            by_cases h0 : ww 0 = 0
            · simp [h0]
            · rw [if_pos ⟨by omega, h0⟩]
              have := wF_set d.lW hA true false i k
              simp only [Bool.false_eq_true, if_false, Nat.add_zero] at this
              rw [this]
              by_cases hia : i = A <;> cases k <;> simp [hia, h0]
          have e2 : wF (Wn 2) i k = (wF (if 0 < 2 ∧ ww 0 ≠ 0 then W.set (A * 2) true else W) i k || (decide (i = A) && (decide (k = true) && decide (ww 1 ≠ 0)))) := by
            rw [hWn]
            by_cases h1 : ww 1 = 0
            · simp [h1]
            · simp only [if_pos (show 1 < 2 ∧ ww 1 ≠ 0 from ⟨by omega, h1⟩)]
              have := wF_set lW1 hA true true i k
              simp only [if_true] at this
              rw [this]
              by_cases hia : i = A <;> cases k <;> simp [hia, h1]
          rw [e2, e1, w0, w1]
          cases k
          · by_cases h0 : stX D + P false z - P false v = 0 <;> simp [pr, h0]
          · by_cases h0 : stY D + P true z - P true v = 0 <;> simp [pr, h0]
        · intro k
          rw [w0, w1]
          cases k
          · by_cases h0 : stX D + P false z - P false v = 0 <;> simp [aF, pr, h0]
          · by_cases h0 : stY D + P true z - P true v = 0 <;> simp [aF, pr, h0]
    · rw [hWn]; simp; exact d37.bs
    · simp; exact d37.hd
  rintro ⟨⟩ h40 ⟨rfl, hAB⟩
  have hnc : ¬ Conn R v z := fun k => hAB (hconn.2 k)
  -- which one goes below
  refine jn_of (fun s h43 => ∃ X Y : Nat, ∃ wx wy : Int, s.1 = (X : Int) ∧ s.2.1 = (Y : Int) ∧ (h40.size ≤ h43.size ∧ ∀ b, b < h40.size → b ≠ c → h43.blk b = h40.blk b) ∧ h43.blk c = some (.cells [.int .i64 wx, .int .i64 wy]) ∧
    ((X = A ∧ Y = B ∧ wx = stX D + P false z - P false v ∧ wy = stY D + P true z - P true v) ∨ (X = B ∧ Y = A ∧ wx = - (stX D + P false z - P false v) ∧ wy = - (stY D + P true z - P true v)))) ?_ fun K44 hK44 => ?_
  case refine_2 =>
    refine nn_of ?_
    simp only [add_mk, Nat.zero_add, Nat.add_zero, Nat.mul_one, show Int.toNat (A : Int) = A from rfl, show Int.toNat (B : Int) = B from rfl]
    refine ldS_of (by rw [d37.cell]; rfl) (ix_of (by omega) (by first | omega | (simp only; omega)) ?_)
    simp only [add_mk, Nat.zero_add, Nat.add_zero]
    refine ldI_of (d37.cr hA) (nn_of ?_)
    simp only [add_mk, Nat.zero_add, Nat.add_zero]
    refine ldS_of (by rw [d37.cell]; rfl) (ix_of (by omega) (by first | omega | (simp only; omega)) ?_)
    simp only [add_mk, Nat.zero_add, Nat.add_zero]
    refine ldI_of (d37.cr hB) (cnd_of (fun _ => ?_) fun _ => hK44 _ _ ⟨A, B, _, _, rfl, rfl, ⟨Nat.le_refl _, fun _ _ _ => rfl⟩, b37, .inl ⟨rfl, rfl, rfl, rfl⟩⟩)
    refine ldI_of (by rw [cell_own b37]; rfl) (ldI_of (by rw [cell_own b37]; rfl) (minus_spec _ _ _ _ _ _ fun G fG => ?_))
    have zG := fG.size
    have x3 : IntKind.i64.wrap (0 - (stX D + P false z - P false v)) = - (stX D + P false z - P false v) := by rw [w64_eq (by omega) (by omega)]; omega
    have x4 : IntKind.i64.wrap (0 - (stY D + P true z - P true v)) = - (stY D + P true z - P true v) := by rw [w64_eq (by omega) (by omega)]; omega
    simp only [w64, x3, x4]
    have cG := (fG.blk _ hc2).trans b37
    refine stc_of cG (by simp) fun g1 z1 b1 k1 => stc_of b1 (by simp) fun g2 z2 b2 k2 => hK44 _ _ ⟨B, A, _, _, rfl, rfl, ⟨by omega, fun b hb hbc => by rw [k2 _ hbc, k1 _ hbc, fG.blk _ hb]⟩, b2, .inr ⟨rfl, rfl, rfl, rfl⟩⟩
  rintro ⟨_, _, u⟩ h43 ⟨X, Y, wx, wy, rfl, rfl, ⟨z43, k43⟩, b43, hXY⟩
  have d43 : TSx h43 o w t R par2 siz M2 W a0 a1 cnt L lea rk P := d37.keep z43 fun b hb1 hb2 => k43 _ (by omega) (by omega)
  have hX' : X < w * t := by omega
  have hY' : Y < w * t := by omega
  have hXY' : X ≠ Y := by omega
  have rX : gt par2 X = X := by
    rcases hXY with ⟨e, -⟩ | ⟨e, -⟩
    · rw [e]; exact rA2
    · rw [e]; exact rB
  have rY : gt par2 Y = Y := by
    rcases hXY with ⟨-, e, -⟩ | ⟨-, e, -⟩
    · rw [e]; exact rB
    · rw [e]; exact rA2
  obtain ⟨wk, hwk⟩ : ∃ wk : Bool → Int, wk = fun k => if k then wy else wx := ⟨_, rfl⟩
  -- the lists behind it
  obtain ⟨M3, hM3⟩ : ∃ M3, M3 = (M2.set (X * 2) wx).set (X * 2 + 1) wy := ⟨_, rfl⟩
  obtain ⟨W1, hW1⟩ : ∃ W1, W1 = W.set (Y * 2) (wF W Y false || wF W X false) := ⟨_, rfl⟩
  obtain ⟨W2, hW2⟩ : ∃ W2, W2 = W1.set (Y * 2 + 1) (wF W Y true || wF W X true) := ⟨_, rfl⟩
  have lW1 : W1.length = 2 * (w * t) := by rw [hW1]; simp [d.lW]
  have eW1 : ∀ i k, wF W1 i k = if i = Y ∧ false = k then (wF W Y false || wF W X false) else wF W i k := fun i k => by
    have := wF_set d.lW hY' (wF W Y false || wF W X false) false i k
    simp only [Bool.false_eq_true, if_false, Nat.add_zero] at this
    rw [hW1, this]
  have eW2 : ∀ i k, wF W2 i k = if i = Y ∧ true = k then (wF W Y true || wF W X true) else wF W1 i k := fun i k => by
    have := wF_set lW1 hY' (wF W Y true || wF W X true) true i k
    simp only [if_true] at this
    rw [hW2, this]
  have hab : (gt L X = gt L v ∧ gt L Y = gt L z ∧ ∀ k, wk k = pr k (stX D) (stY D) + P k z - P k v) ∨ gt L X = gt L z ∧ gt L Y = gt L v ∧ ∀ k, wk k = -(pr k (stX D) (stY D) + P k z - P k v) := by
    rcases hXY with ⟨rfl, rfl, rfl, rfl⟩ | ⟨rfl, rfl, rfl, rfl⟩
    · refine .inl ⟨lA, lB, fun k => ?_⟩
      rw [hwk]; cases k <;> rfl
    · refine .inr ⟨lB, lA, fun k => ?_⟩
      rw [hwk]; cases k <;> rfl
  have hho : ∀ k i, i < w * t → oF M3 k i = if i = X then wk k else oF M2 k i := by
    intro k i hi
    rw [hM3, oF_set d43.lM hX', hwk]
  have hhw : ∀ i k, i < w * t → wF W2 i k = if i = Y then wF W Y k || wF W X k else wF W i k := by
    intro i k hi
    rw [eW2, eW1]
    by_cases h1 : i = Y
    · subst h1; cases k <;> simp
    · cases k <;> simp [h1]
  obtain ⟨c1', c2', L', lea', rk', P', hi⟩ := d43.inv.hang (a := v) (b := z) (x := X) (y := Y) (p := stX D) (q := stY D) (w := wk) (o' := oF M3) (wr' := wF W2) hv hto hX' hY' rX rY hXY' (st_le D) hab hho hhw
  · have hcn : cnt ≤ w * t := by rw [d.inv.d.cnt, d.inv.nl]; exact cntB_le _ _
    refine nn_of ?_
    simp only [add_mk, Nat.zero_add, Nat.add_zero, Nat.mul_one, show Int.toNat (X : Int) = X from rfl, show Int.toNat (Y : Int) = Y from rfl]
    refine ldS_of (by rw [d43.cell]; rfl) (nn_of ?_)
    simp only [add_mk, Nat.zero_add, Nat.add_zero]
    refine ldS_of (by rw [d43.cell]; rfl) (ldI_of (by rw [cell_own b43]; rfl) (ldI_of (by rw [cell_own b43]; rfl) (ix_of (by omega) (by first | omega | (simp only; omega)) ?_)))
    simp only [add_mk, Nat.zero_add, Nat.add_zero]
    refine stc_of d43.bp (by rw [ints_len, nats_len, d43.lpar]; exact hX') fun h52 z52 b52 k52 => ?_
    rw [ints_set, nats_set] at b52
    have c52 := (k52 c (by omega)).trans b43
    refine ⟨by rw [cell_own c52]; rfl, by rw [cell_own c52]; rfl, ix_of (by omega) (by first | omega | (simp only; omega)) ?_⟩
    simp only [add_mk, Nat.zero_add, Nat.add_zero]
    have q52 := (k52 _ (Ne.symm pq)).trans d43.bq
    refine stc_of q52 (by rw [ints_len, d43.lM]; omega) fun h54 z54 b54 k54 => stc_of b54 (by simp [ints_len, d43.lM]; omega) fun h55 z55 b55 k55 => ?_
    rw [ints_set, ints_set, ← hM3] at b55
    have a55 : h55.blk o.a = _ := (k55 _ aq).trans ((k54 _ aq).trans ((k52 _ ap).trans d43.hd))
    have r55 : h55.blk o.r = some (.cells (ints (nats siz))) := (k55 _ (Ne.symm qr)).trans ((k54 _ (Ne.symm qr)).trans ((k52 _ (Ne.symm pr')).trans d43.br))
    have lsz : (nats siz).length = w * t := by rw [nats_len, d43.lsiz]
    refine nn_of ?_
    simp only [add_mk, Nat.zero_add, Nat.add_zero]
    refine ldS_of (by rw [cell_own a55]; rfl) (ix_of (by omega) (by first | omega | (simp only; omega)) ?_)
    simp only [add_mk, Nat.zero_add, Nat.add_zero]
    refine ldI_of (by rw [cell_own r55, ints_getD (by omega), nats_getD]) (nn_of ?_)
    simp only [add_mk, Nat.zero_add, Nat.add_zero]
    refine ldS_of (by rw [cell_own a55]; rfl) (ix_of (by omega) (by first | omega | (simp only; omega)) ?_)
    simp only [add_mk, Nat.zero_add, Nat.add_zero]
    refine ldI_of (by rw [cell_own r55, ints_getD (by omega), nats_getD]) (ix_of (by omega) (by first | omega | (simp only; omega)) ?_)
    simp only [add_mk, Nat.zero_add, Nat.add_zero]
    refine stc_of r55 (by rw [ints_len]; omega) fun h65 z65 b65 k65 => ?_
    have esz : IntKind.i64.wrap ((siz.getD Y 0 : Int) + (siz.getD X 0 : Int)) = ((gt siz Y + gt siz X : Nat) : Int) := by
      rw [show ((siz.getD Y 0 : Int) + (siz.getD X 0 : Int)) = ((gt siz Y + gt siz X : Nat) : Int) by simp [gt], w64n (by omega)]
    simp only [w64, esz] at b65 ⊢
    rw [ints_set, nats_set] at b65
    have a65 := (k65 _ ar).trans a55
    have s65 : h65.blk o.s = some (.cells (bools W)) := (k65 _ (Ne.symm rs)).trans ((k55 _ (Ne.symm qs)).trans ((k54 _ (Ne.symm qs)).trans ((k52 _ (Ne.symm ps)).trans d43.bs)))
    have p65 := (k65 _ pr').trans ((k55 _ pq).trans ((k54 _ pq).trans b52))
    have q65 := (k65 _ qr).trans b55
    have f65 : ∀ b, b < o.lo ∨ o.hi ≤ b → b < h43.size → h65.blk b = h43.blk b := fun b hb1 hb2 => by
      rw [k65 _ (by omega), k55 _ (by omega), k54 _ (by omega), k52 _ (by omega)]
    refine jn_of (fun s g => g.size = h65.size ∧ g.blk o.s = some (.cells (bools W2)) ∧ ∀ b, b ≠ o.s → g.blk b = h65.blk b) ?_ fun K68 hK68 => ?_
    case refine_2 =>
      refine for_of 2 (fun k (s : Int × Unit) g => s.1 = (k : Int) ∧ g.size = h65.size ∧ g.blk o.s = some (.cells (bools (if k = 0 then W else if k = 1 then W1 else W2))) ∧ ∀ b, b ≠ o.s → g.blk b = h65.blk b) ?_ ⟨rfl, rfl, s65, fun _ _ => rfl⟩
      rintro k Kr ⟨s, u⟩ g hk ⟨rfl, zg, gs, gk⟩ hKr
      refine cnd_of (fun c3 => ?_) fun c3 => ?_
      · simp only [decide_eq_true_eq] at c3
        have ag := (gk _ as).trans a65
        refine nn_of ?_
        simp only [add_mk, Nat.zero_add, Nat.add_zero, Nat.mul_one, show Int.toNat (k : Int) = k from rfl]
        refine ldS_of (by rw [cell_own ag]; rfl) (nn_of ?_)
        simp only [add_mk, Nat.zero_add, Nat.add_zero]
        refine ldS_of (by rw [cell_own ag]; rfl) (ix_of (by omega) (by first | omega | (simp only; omega)) ⟨by omega, by omega, ?_⟩)
        simp only [add_mk, Nat.zero_add, Nat.add_zero]
        have hke : k = 0 ∨ k = 1 := by omega
        have vY : (bools (if k = 0 then W else if k = 1 then W1 else W2))[Y * 2 + k]? = some (.bool (wF W Y (k == 1))) := by
          rcases hke with rfl | rfl
          · rw [if_pos rfl, bools_get (by rw [d.lW]; omega)]; rfl
          · rw [if_neg (by omega), if_pos rfl, bools_get (by rw [lW1]; omega)]
            have := eW1 Y true
            rw [if_neg (by simp)] at this
            exact congrArg (fun x => some (Value.bool x)) this
        have vX : (bools (if k = 0 then W else if k = 1 then W1 else W2))[X * 2 + k]? = some (.bool (wF W X (k == 1))) := by
          rcases hke with rfl | rfl
          · rw [if_pos rfl, bools_get (by rw [d.lW]; omega)]; rfl
          · rw [if_neg (by omega), if_pos rfl, bools_get (by rw [lW1]; omega)]
            have := eW1 X true
            rw [if_neg (by simp)] at this
            exact congrArg (fun x => some (Value.bool x)) this
        have nxt : ∀ g' : Hp, g'.blk o.s = some (.cells (bools ((if k = 0 then W else if k = 1 then W1 else W2).set (Y * 2 + k) (wF W Y (k == 1) || wF W X (k == 1))))) → g'.blk o.s = some (.cells (bools (if k + 1 = 0 then W else if k + 1 = 1 then W1 else W2))) := by
          intro g' e
          rw [e]
          rcases hke with rfl | rfl
          · simp [hW1]
          · simp [hW2]
        have hlen : Y * 2 + k < (bools (if k = 0 then W else if k = 1 then W1 else W2)).length := (List.getElem?_eq_some_iff.1 vY).1
        refine ldB_of (by rw [cell_own gs]; exact vY) (cnd_of (fun c4 => ix_of (by omega) (by first | omega | (simp only; omega)) ⟨by omega, by omega, ?_⟩) fun c4 => nn_of ?_)
        · simp only [add_mk, Nat.zero_add, Nat.add_zero]
          refine stc_of gs hlen fun g1 z1 b1 k1 => hKr (by omega) _ _ ⟨?_, by omega, nxt _ ?_, fun b hb => by rw [k1 _ hb, gk _ hb]⟩
          · simp only; rw [w64_eq (by omega) (by omega)]; omega
          · rw [b1, bools_set, c4]; rfl
        · simp only [add_mk, Nat.zero_add, Nat.add_zero]
          refine ldS_of (by rw [cell_own ag]; rfl) (ix_of (by omega) (by first | omega | (simp only; omega)) ⟨by omega, by omega, ?_⟩)
          simp only [add_mk, Nat.zero_add, Nat.add_zero]
          refine ldB_of (by rw [cell_own gs]; exact vX) (ix_of (by omega) (by first | omega | (simp only; omega)) ⟨by omega, by omega, ?_⟩)
          simp only [add_mk, Nat.zero_add, Nat.add_zero]
          refine stc_of gs hlen fun g1 z1 b1 k1 => hKr (by omega) _ _ ⟨?_, by omega, nxt _ ?_, fun b hb => by rw [k1 _ hb, gk _ hb]⟩
          · simp only; rw [w64_eq (by omega) (by omega)]; omega
          · rw [b1, bools_set, c4]; rfl
      · simp only [decide_eq_false_iff_not] at c3
        have : k = 2 := by omega
        subst this
        exact hK68 _ _ ⟨zg, gs, gk⟩
    rintro ⟨⟩ h67 ⟨z67, s67, k67⟩
    have a67 := (k67 _ as).trans a65
    refine nn_of ?_
    simp only [add_mk, Nat.zero_add, Nat.add_zero]
    refine ldI_of (by rw [cell_own a67]; rfl) (nn_of ?_)
    simp only [add_mk, Nat.zero_add, Nat.add_zero]
    refine stc_of a67 (by simp) fun h72 z72 b72 k72 => ?_
    have ecn : IntKind.i64.wrap ((cnt : Int) - 1) = ((cnt - 1 : Nat) : Int) := by rw [w64_eq (by omega) (by omega)]; omega
    rw [ecn] at b72
    refine hok h72 true ⟨_, _, _, _, a0, a1, _, L', lea', rk', P', { d43 with
      inv := hi
      hd := b72
      bp := (k72 _ (Ne.symm ap)).trans ((k67 _ ps).trans p65)
      bq := (k72 _ (Ne.symm aq)).trans ((k67 _ qs).trans q65)
      br := (k72 _ (Ne.symm ar)).trans ((k67 _ rs).trans b65)
      bs := (k72 _ (Ne.symm as)).trans s67
      lM := by rw [hM3]; simp [d43.lM]
      lW := by rw [hW2]; simp [lW1]
      hi := by have := d43.hi; omega }⟩ ⟨by have := g37.size; omega, fun b hb1 hb2 => ?_⟩ ⟨fun _ => hnc, fun _ => rfl⟩ (by
        have q1 := hi.count; have q2 := d.inv.count
        simp only [if_true]; omega)
    have zz := g37.size
    rw [k72 _ (by omega), k67 _ (by omega), f65 _ hb2 (by omega), k43 _ (by omega) (by omega), g37.blk _ hb1 hb2]

end
end Go.Hx
