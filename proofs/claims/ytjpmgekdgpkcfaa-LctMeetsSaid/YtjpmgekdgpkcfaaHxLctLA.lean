/- Link-cut forests: the law on meetings. No condition. -/
import Derived.Test.YtjpmgekdgpkcfaaHxLctGr
namespace Go.Hx
set_option linter.unusedSimpArgs false
set_option linter.unusedVariables false

theorem SP.lt {L : Es} {n : Nat} (bd : ∀ e, e ∈ L → e.1 < n ∧ e.2 < n) {u v : Nat} {p : List Nat} (s : SP (eL L) u v p) (hu : u < n) {z : Nat} (hz : z ∈ p) : z < n := Cn_lt bd (s.cn hz) hu

set_option maxHeartbeats 1000000 in
theorem g_law12_LctMeets_true (x : Int) (l : Sl) (v0 v1 v2 : Int) (h : Hp) (K : Bool → Hp → Prop) (_ : -9223372036854775808 ≤ x ∧ x ≤ 9223372036854775807) {M : List Int} (hM : Rd h 2 l (ints M)) (hy : l.n ≤ 2 ^ 63 - 1)
    (_ : ∀ x ∈ M, -9223372036854775808 ≤ x ∧ x ≤ 9223372036854775807) (_ : -9223372036854775808 ≤ v0 ∧ v0 ≤ 9223372036854775807) (_ : -9223372036854775808 ≤ v1 ∧ v1 ≤ 9223372036854775807) (_ : -9223372036854775808 ≤ v2 ∧ v2 ≤ 9223372036854775807) (hK : ∀ h', K true h') : g_law12_LctMeets x l v0 v1 v2 h K := by
  unfold g_law12_LctMeets
  refine alo_of fun h2 z2 b2 k2 => small12_spec _ _ _ _ fun r1 e1 => cnd_of (fun _ => works_spec _ _ fun h' _ => hK h') fun q => ?_
  obtain ⟨⟨q1, q2⟩, q3⟩ := e1.1 (by simpa using q)
  obtain ⟨n, rfl⟩ : ∃ n : Nat, x = n := ⟨x.toNat, by omega⟩
  refine grown_spec n (by omega) (hM.fr ⟨by omega, k2⟩) q3 (fun _ _ => True) trivial (fun _ _ _ _ _ _ _ _ _ => trivial) _ fun h9 a b L s d f9 ha hb _ _ _ _ _ => cnd_f rfl ?_
  obtain ⟨V, hV⟩ : ∃ V : Nat → Int, V = fun i => [v0, v1, v2].getD i 0 := ⟨_, rfl⟩
  have V0 : V 0 = v0 := by rw [hV]; rfl
  have V1 : V 1 = v1 := by rw [hV]; rfl
  have V2 : V 2 = v2 := by rw [hV]; rfl
  have cv : ∀ g, Fr h2.size h2 g → ∀ i : Nat, i < 3 → g.cell (Addr.add ⟨h.size, 0, none⟩ (Int.toNat ((i : Nat) : Int) * 1)) = some (.int .i64 (V i)) := fun g fg i hi => by
    rw [add_mk, cell_own ((fg.blk _ (by omega)).trans b2)]
    simp only [Nat.zero_add, Int.toNat_natCast, Nat.mul_one]
    obtain rfl | rfl | rfl : i = 0 ∨ i = 1 ∨ i = 2 := by omega
    · rw [V0]; rfl
    · rw [V1]; rfl
    · rw [V2]; rfl
  have c0 : ∀ g, Fr h2.size h2 g → g.cell (Addr.add ⟨h.size, 0, none⟩ (Int.toNat 0 * 1)) = some (.int .i64 (V 0)) := fun g fg => cv g fg 0 (by omega)
  have c1 : ∀ g, Fr h2.size h2 g → g.cell (Addr.add ⟨h.size, 0, none⟩ (Int.toNat 1 * 1)) = some (.int .i64 (V 1)) := fun g fg => cv g fg 1 (by omega)
  have c2 : ∀ g, Fr h2.size h2 g → g.cell (Addr.add ⟨h.size, 0, none⟩ (Int.toNat 2 * 1)) = some (.int .i64 (V 2)) := fun g fg => cv g fg 2 (by omega)
  have th : ∀ {g g' : Hp}, Fr h2.size h2 g → FrB a b g g' → Fr h2.size h2 g' := fun f g => f.thenB g (Nat.le_refl _) ha hb
  have fo := d.fo
  have bd := d.bd
  refine ⟨by omega, by omega, ldI_of (c0 _ f9) ⟨by omega, by omega, ldI_of (c1 _ f9) ⟨by omega, by omega, ldI_of (c2 _ f9) ?_⟩⟩⟩
  refine T_meet d _ _ _ _ fun m1 x1 h15 d15 f15 e15 => ?_
  have f15 := th f9 f15
  refine ⟨by omega, by omega, ldI_of (c2 _ f15) ⟨by omega, by omega, ldI_of (c0 _ f15) ⟨by omega, by omega, ldI_of (c1 _ f15) ?_⟩⟩⟩
  refine T_meet d15 _ _ _ _ fun m2 x2 h21 d21 f21 e21 => ?_
  have f21 := th f15 f21
  refine ⟨by omega, by omega, ldI_of (c1 _ f21) ⟨by omega, by omega, ldI_of (c0 _ f21) ⟨by omega, by omega, ldI_of (c2 _ f21) ?_⟩⟩⟩
  refine T_meet d21 _ _ _ _ fun m3 x3 h27 d27 f27 e27 => ?_
  have f27 := th f21 f27
  obtain ⟨rfl, rfl⟩ : m1 = m2 ∧ x1 = x2 := meI_eq e15 e21 ⟨fun ⟨p, q⟩ => ⟨cnI_sym q, cnI_tr (cnI_sym q) p⟩, fun ⟨p, q⟩ => ⟨cnI_tr (cnI_sym p) q, cnI_sym p⟩⟩ fun u v w z z' u' v' w' a1 a2 a3 b1 b2 b3 mt mt' => by
    obtain rfl : u = v' := by omega
    obtain rfl : v = w' := by omega
    obtain rfl : w = u' := by omega
    exact fo.meet mt ((mt'.swap fo).swap2 fo)
  obtain ⟨rfl, rfl⟩ : m1 = m3 ∧ x1 = x3 := meI_eq e15 e27 ⟨fun ⟨p, q⟩ => ⟨cnI_sym p, cnI_tr (cnI_sym p) q⟩, fun ⟨p, q⟩ => ⟨cnI_sym p, cnI_tr (cnI_sym p) q⟩⟩ fun u v w z z' u' v' w' a1 a2 a3 b1 b2 b3 mt mt' => by
    obtain rfl : u = v' := by omega
    obtain rfl : v = u' := by omega
    obtain rfl : w = w' := by omega
    exact fo.meet mt (mt'.swap fo)
  refine jn_of (fun _ g => LT g a b n L (fun _ => 0) ∧ Fr h2.size h2 g) ?_ fun K30 hK30 => ?_
  rotate_left
  · refine cnd_f (by simp) (cnd_f (by simp) (cnd_f (by simp) (cnd_f (by simp) ⟨by omega, by omega, ldI_of (c0 _ f27) ⟨by omega, by omega, ldI_of (c1 _ f27) ?_⟩⟩)))
    refine T_conn d27 _ _ _ fun y1 h49 d49 f49 e49 => ?_
    have f49 := th f27 f49
    refine cnd_of (fun qq => ?_) fun qq => ?_
    · refine ⟨by omega, by omega, ldI_of (c1 _ f49) ⟨by omega, by omega, ldI_of (c2 _ f49) ?_⟩⟩
      refine T_conn d49 _ _ _ fun y2 h53 d53 f53 e53 => ?_
      have : x1 = y2 := by
        rw [Bool.eq_iff_iff, meI_cn e15, e53]
        have := e49.1 qq
        exact ⟨fun ⟨p, q⟩ => cnI_tr (cnI_sym p) q, fun q => ⟨this, cnI_tr this q⟩⟩
      subst this
      exact cnd_f (by simp) (hK30 _ _ ⟨d53, th f49 f53⟩)
    · have : x1 = false := by
        rw [Bool.eq_false_iff]
        intro g
        have := e49.2 ((meI_cn e15).1 g).1
        rw [this] at qq; cases qq
      subst this
      exact cnd_f (by simp) (hK30 _ _ ⟨d49, f49⟩)
  rintro ⟨⟩ h29 ⟨d29, f29⟩
  refine cnd_of (fun _ => works_spec _ _ fun h' _ => hK h') fun qq => ?_
  obtain rfl : x1 = true := by simpa using qq
  rcases e15 with ⟨_, e, _⟩ | ⟨u, v, w, z, a1, a2, a3, hu, hv, hw, mt, rfl, _⟩
  · cases e
  obtain ⟨p, q', r, s1, s2, s3, g1, g2, g3⟩ := mt
  have zn : z < n := s1.lt bd hu g1
  have way : ∀ k, k < 3 → ∃ (u v : Nat) (p : List Nat), V k = u ∧ V ((k + 1) % 3) = v ∧ u < n ∧ v < n ∧ SP (eL L) u v p ∧ z ∈ p := fun k hk => by
    obtain rfl | rfl | rfl : k = 0 ∨ k = 1 ∨ k = 2 := by omega
    · exact ⟨u, v, p, a1, a2, hu, hv, s1, g1⟩
    · exact ⟨v, w, q', a2, a3, hv, hw, s2, g2⟩
    · exact ⟨w, u, _, a3, a1, hw, hu, s3.rev fo.sym, by simpa using g3⟩
  refine for_of 3 (fun k (st : Int × Unit) g => st.1 = (k : Int) ∧ LT g a b n L (fun _ => 0) ∧ Fr h2.size h2 g) ?_ ⟨rfl, d29, f29⟩
  rintro k Kr ⟨st, _⟩ g hk ⟨rfl, dg, fg⟩ hKr
  refine cnd_of (fun c => ?_) fun c => works_spec _ _ fun h' _ => hK h'
  simp only [decide_eq_true_eq] at c
  have hk3 : k < 3 := by omega
  have kw : w64 ((k : Int) + 1) = ((k + 1 : Nat) : Int) := by rw [w64, w64_eq (by omega) (by omega)]; omega
  have tm : Int.tmod (((k + 1 : Nat)) : Int) 3 = (((k + 1) % 3 : Nat) : Int) := rfl
  simp only [kw, tm]
  refine ⟨by omega, by omega, ldI_of (cv _ fg k hk3) ⟨by omega, by omega, by omega, ldI_of (cv _ fg _ (by omega)) ?_⟩⟩
  obtain ⟨u, v, p, hx, hy, hu, hv, sp, hz⟩ := way k hk3
  refine T_dist dg _ _ _ fun h39 p1 d39 f39 e39 => T_dist d39 _ _ _ fun h41 p2 d41 f41 e41 => T_dist d41 _ _ _ fun h43 p3 d43 f43 e43 => ?_
  have ds := dist_split fo sp hz hu hv zn hx hy rfl e39 e41 e43
  have l3 := (e43.le fun u v c hu => Cn_lt bd c hu).1
  have : w64 (((p1.length : Nat) : Int) - 1 + ((p2.length : Nat) - 1)) = (p3.length : Nat) - 1 := by
    rw [ds, w64, w64_eq (by omega) (by omega)]
  exact cnd_f (by rw [this]; simp) (hKr hk3 _ _ ⟨rfl, d43, th (th (th fg f39) f41) f43⟩)

end Go.Hx
