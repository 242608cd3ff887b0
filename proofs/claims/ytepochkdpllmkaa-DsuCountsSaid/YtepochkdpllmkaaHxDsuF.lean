/- Copies, over the abstract heap. No condition. -/
import Derived.Test.YtepochkdpllmkaaHxDsuE
namespace Go.Hx

theorem Clone_spec {h : Hp} {s : Sl} {M : List Int} {B : Nat} (hl : Lst h 1 s (ints M) B) (hn : s.n < 2 ^ 40) (K : Sl → Hp → Prop) (hK : ∀ s' h', Lst h' 1 s' (ints M) h.size → Fr h.size h h' → K s' h') :
    g_slices_Clone_int s h K := by
  unfold g_slices_Clone_int
  refine cnd_of (fun c => ?_) fun c => ?_
  · obtain ⟨h1, h2, ⟨rfl, h3⟩ | ⟨b, sp, ha, h4⟩⟩ := hl
    · exact hK _ _ (by rw [h3]; exact Lst.nil _ _ _) (Fr.refl _ _)
    · rw [ha] at c; cases c
  · refine alo_of fun h1 z1 b1 k1 => ?_
    have f1 : Fr h.size h h1 := ⟨by omega, k1⟩
    have L1 : Lst h1 1 ⟨some ⟨h.size, 0, none⟩, 0, 0⟩ [] h.size := ⟨by simp, Nat.le_refl _, .inr ⟨h.size, [], rfl, Nat.le_refl _, by omega, b1, rfl⟩⟩
    refine app_lst L1 f1.size (hl.fr f1).rd.1 (ints_one _) rfl (by simp only; omega) (by simp only; omega) fun s' h2 hl2 _ _ f2 _ _ => hK _ _ hl2 (f1.trans f2)

theorem Copy_spec {h : Hp} {o : DO} {L : List Nat} (d : DS h o L) (K : Option Addr → Hp → Prop)
    (hK : ∀ o' h', DS h' o L → DS h' o' L → Fr h.size h h' → o'.lo = h.size → K (some ⟨o'.a, 0, none⟩) h') : g_dsu_Sets_Copy (some ⟨o.a, 0, none⟩) h K := by
  have d0 := d
  obtain ⟨par, siz, lea, cnt, d⟩ := d
  have hn := d.n
  unfold g_dsu_Sets_Copy
  refine cnd_f rfl (nn_of ?_)
  rw [add_mk]
  refine ldB_of d.c0 (cnd_f rfl (nn_of ?_))
  rw [add_mk]
  refine ldS_of d.c1 (nn_of ?_)
  rw [add_mk]
  refine ldS_of d.c2 (nn_of ?_)
  rw [add_mk]
  refine ldS_of d.c3 (nn_of ?_)
  rw [add_mk]
  refine ldI_of d.c4 (Clone_spec d.lp (by rw [d.np]; omega) _ fun p1 h1 l1 f1 => ?_)
  have d1 := d.keep f1.size fun c _ hc => f1.blk c (by have := d.hi; omega)
  simp only [add_mk]
  refine ⟨d1.c4, d1.c3, d1.c2, Clone_spec d1.lq (by rw [d.nq]; omega) _ fun q2 h2 l2 f2 => ?_⟩
  have d2 := d1.keep f2.size fun c _ hc => f2.blk c (by have := d1.hi; omega)
  refine ⟨d2.c4, d2.c3, Clone_spec d2.lr (by rw [d.nr]; omega) _ fun r3 h3 l3 f3 => ?_⟩
  have d3 := d2.keep f3.size fun c _ hc => f3.blk c (by have := d2.hi; omega)
  refine ⟨d3.c4, alo_of fun h4 z4 b4 k4 => ?_⟩
  have f4 : Fr h3.size h3 h4 := ⟨by omega, k4⟩
  have s1 := f1.size
  have s2 := f2.size
  have s3 := f3.size
  have l1' := (l1.fr f2).fr f3
  have l2' := l2.fr f3
  have f : Fr h.size h h4 := ((f1.trans (f2.mono s1)).trans (f3.mono (by omega))).trans (f4.mono (by omega))
  have bp : ∀ x, p1.a = some x → h.size ≤ x.block ∧ x.block < h1.size := fun x hx => ⟨(l1.blk_lt hx).1, (l1.blk_lt hx).2.1⟩
  have bq : ∀ x, q2.a = some x → h1.size ≤ x.block ∧ x.block < h2.size := fun x hx => ⟨(l2.blk_lt hx).1, (l2.blk_lt hx).2.1⟩
  have br : ∀ x, r3.a = some x → h2.size ≤ x.block ∧ x.block < h3.size := fun x hx => ⟨(l3.blk_lt hx).1, (l3.blk_lt hx).2.1⟩
  refine hK ⟨h3.size, p1, q2, r3, h.size, h4.size⟩ h4 (d0.fr f) ⟨par, siz, lea, cnt, ?_⟩ f rfl
  exact { n := d.n, inv := d.inv, hd := b4, lp := l1'.fr f4, lq := (l2'.fr f4).le s1, lr := (l3.fr f4).le (Nat.le_trans s1 s2), alo := by simp only; omega, ahi := by simp only; omega, hi := Nat.le_refl _,
          php := fun x hx => by have := bp x hx; simp only; omega, phq := fun x hx => by have := bq x hx; simp only; omega, phr := fun x hx => by have := br x hx; simp only; omega,
          ap := fun x hx => by have := bp x hx; simp only; omega, aq := fun x hx => by have := bq x hx; simp only; omega, ar := fun x hx => by have := br x hx; simp only; omega,
          pq := fun x hx y hy => by have := bq x hx; have := bp y hy; omega, pr := fun x hx y hy => by have := br x hx; have := bp y hy; omega, qr := fun x hx y hy => by have := br x hx; have := bq y hy; omega }

theorem g_law08_DsuCopies_true (n : Int) (l : Sl) (x y : Int) (h : Hp) (K : Bool → Hp → Prop) (_ : -9223372036854775808 ≤ n ∧ n ≤ 9223372036854775807) {M : List Int} (hM : Rd h 2 l (ints M)) (_ : l.n ≤ 2 ^ 63 - 1)
    (_ : ∀ x ∈ M, -9223372036854775808 ≤ x ∧ x ≤ 9223372036854775807) (_ : -9223372036854775808 ≤ x ∧ x ≤ 9223372036854775807) (_ : -9223372036854775808 ≤ y ∧ y ≤ 9223372036854775807) (hK : ∀ h', K true h') :
    g_law08_DsuCopies n l x y h K := by
  unfold g_law08_DsuCopies
  have wk : ∀ h', g_law08_works h' fun r h2 => K r h2 := fun h' => works08_spec _ _ fun h2 _ => hK h2
  refine alo_of fun h2 z2 b2 k2 => ?_
  have f2 : Fr h.size h h2 := ⟨by omega, k2⟩
  refine small_spec _ _ _ _ (fun n0 n1 l1 => cnd_f rfl ?_) (cnd_t rfl (wk _))
  refine united_spec n l M h2 _ (hM.fr f2) (by omega) (fun bad => by omega) fun _ _ o h8 d8 f8 lo8 => cnd_f rfl ?_
  obtain ⟨L, hL⟩ : ∃ L, L = unitedL n.toNat M l.n := ⟨_, rfl⟩
  have hlen : L.length = n.toNat := by rw [hL]; exact unitedL_len _ _ _
  rw [← hL] at d8
  refine Copy_spec d8 _ fun o' h10 d10 e10 f10 lo10 => cnd_f rfl ?_
  have hhi := d8.hi
  have small : ∀ {H : Hp} {s : Sl} {L' : List Nat} {B : Nat}, Lst H 1 s (ints (nats L')) B → L'.length = n.toNat → s.n < 2 ^ 62 := fun hl he => by
    have := hl.1; rw [ints_len, nats_len] at this; omega
  -- the copy's labels, and the first ones' labels
  refine Labels_spec e10 _ fun s11 h12 e12 f12 l12 => Labels_spec (d10.other f12 (.inl (by omega))) _ fun s13 h14 d14 f14 l14 => ?_
  have hhi' := e10.hi
  have sz12 := f12.size
  have sz14 := f14.size
  have sz10 := f10.size
  have e14 := e12.other f14 (.inr (by omega))
  refine same08_spec _ _ _ _ _ _ (l12.frI f14 (by omega)).rd l14.rd (small l12 hlen) (cnd_f (by simp) ?_)
  refine Labels_spec d14 _ fun s17 h18 d18 f18 l18 => ⟨by omega, by omega, ?_⟩
  have e18 := e14.other f18 (.inr (by omega))
  have sz18 := f18.size
  have bx : h18.blk h.size = some (.cells [.int .i64 x, .int .i64 y]) := by
    have g : ∀ {lo hi : Nat} {a b : Hp}, FrI lo hi a b → h.size < lo → h.size < a.size → b.blk h.size = a.blk h.size := fun f h1 h2 => f.blk _ h2 (.inl h1)
    have s8 := f8.size
    rw [g f18 (by omega) (by omega), g f14 (by omega) (by omega), g f12 (by omega) (by omega), f10.blk _ (by omega), f8.blk _ (by omega), b2]
  rw [add_mk, add_mk]
  refine ldI_of (v := x) (by rw [cell_own bx]; rfl) ⟨by omega, by omega, ldI_of (v := y) (by rw [cell_own bx]; rfl) (Union_spec e18 _ _ _ fun h23 e23 f23 => ?_)⟩
  have sz23 := f23.size
  have d23 := d18.other f23 (.inl (by omega))
  refine Labels_spec d23 _ fun s24 h25 d25 f25 l25 => ?_
  have sz25 := f25.size
  have e25 := e23.other f25 (.inr (by omega))
  have hi18 := e18.hi
  refine same08_spec _ _ _ _ _ _ l25.rd (((l18.le (Nat.le_refl _)).keep (h' := h25) (by omega) fun a ha => by
    have b1 := (l18.blk_lt ha).1
    have b2 := (l18.blk_lt ha).2.1
    have h14hi : o'.hi ≤ h14.size := e14.hi
    rw [f25.blk _ (by omega) (.inr (by omega)), f23.blk _ b2 (.inr (by omega))]).rd) (small l25 hlen) (cnd_f (by simp) ?_)
  have hlen' := unionV_len L x y
  refine Labels_spec e25 _ fun s28 h29 e29 f29 l29 => ?_
  have sz29 := f29.size
  have d29 := d25.other f29 (.inl (by omega))
  refine Union_spec d29 _ _ _ fun h32 d32 f32 => ?_
  have sz32 := f32.size
  have e32 := e29.other f32 (.inr (by omega))
  refine Labels_spec e32 _ fun s33 h34 e34 f34 l34 => ?_
  have sz34 := f34.size
  have h25hi : o'.hi ≤ h25.size := e25.hi
  refine same08_spec _ _ _ _ _ _ l34.rd ((l29.keep (h' := h34) (by omega) fun a ha => by
    have b1 := (l29.blk_lt ha).1
    have b2 := (l29.blk_lt ha).2.1
    rw [f34.blk _ (by omega) (.inr (by omega)), f32.blk _ b2 (.inr (by omega))]).rd) (small l34 (by omega)) (cnd_t (by simp) (wk _))

end Go.Hx
