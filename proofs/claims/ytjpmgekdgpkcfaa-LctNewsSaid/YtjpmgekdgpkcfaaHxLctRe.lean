/- Link-cut forests beside the document's: the laws on New and on scripts. No condition. -/
import Derived.Test.YtjpmgekdgpkcfaaHxLctRd
namespace Go.Hx
set_option linter.unusedSimpArgs false
set_option linter.unusedVariables false

/-- Both forests in the heap, with the same edges and keys. -/
structure PL (g : Hp) (B a b A n : Nat) (L : Es) (key : Nat → Int) : Prop where
  lt : LT g a b n L key
  rf : ∃ k e, RF g A n L key k e B ∧ nb k a ∧ nb k b ∧ nb e a ∧ nb e b
  ne : A ≠ a ∧ A ≠ b
  ge : B ≤ a ∧ B ≤ b

namespace PL
variable {g g' : Hp} {B a b A n : Nat} {L L' : Es} {key key' : Nat → Int}

theorem l (d : PL g B a b A n L key) (h : LT g' a b n L key) (f : FrB a b g g') : PL g' B a b A n L key := by
  obtain ⟨k, e, r, h1, h2, h3, h4⟩ := d.rf
  exact ⟨h, ⟨k, e, r.frB f d.ne ⟨h1, h2⟩ ⟨h3, h4⟩, h1, h2, h3, h4⟩, d.ne, d.ge⟩
theorem r (d : PL g B a b A n L key) (f : Fr g.size g g') : PL g' B a b A n L key := by
  obtain ⟨k, e, r, h1, h2, h3, h4⟩ := d.rf
  exact ⟨d.lt.fr f, ⟨k, e, r.fr f, h1, h2, h3, h4⟩, d.ne, d.ge⟩
end PL

/-- Both are nil, or both are forests. -/
def S12 (g : Hp) (B : Nat) (f r : Option Addr) (m : Nat) : Prop := (f = none ∧ r = none) ∨ ∃ a b A n L key, f = some ⟨a, 0, none⟩ ∧ r = some ⟨A, 0, none⟩ ∧ PL g B a b A n L key ∧ L.length ≤ m

section
variable {h : Hp} {B : Nat}

theorem nVal (h : Hp) (K : Bool → Hp → Prop) (hK : K false h) : g_ref12_Forest_valid none h K := by unfold g_ref12_Forest_valid; exact cnd_f rfl hK
theorem nHasR (h : Hp) (v : Int) (K : Bool → Hp → Prop) (hK : K false h) : g_ref12_Forest_has none v h K := by unfold g_ref12_Forest_has; exact nVal h _ (cnd_f rfl hK)
theorem nPathR (h : Hp) (x y : Int) (K : Sl → Hp → Prop) (hK : K ⟨none, 0, 0⟩ h) : g_ref12_Forest_Path none x y h K := by unfold g_ref12_Forest_Path; exact nHasR h _ _ (cnd_t rfl hK)

theorem nMeetR (h : Hp) (x y t : Int) (K : Int → Bool → Hp → Prop) (hK : K 0 false h) : g_ref12_Forest_Meet none x y t h K := by
  unfold g_ref12_Forest_Meet
  refine nPathR h _ _ _ (nPathR h _ _ _ (nPathR h _ _ _ ?_))
  refine for_of 0 (fun k (st : Int × Unit) g => st.1 = 0 ∧ g = h) ?_ ⟨rfl, rfl⟩
  rintro k Kr ⟨st, _⟩ g _ ⟨rfl, rfl⟩ _
  exact cnd_f rfl hK

theorem agree_spec {f r : Option Addr} {m : Nat} (s : S12 h B f r m) (hB : B ≤ h.size) (x y t : Int) (K : Bool → Hp → Prop) (hK : ∀ h', S12 h' B f r m → Fr B h h' → K true h') : g_law12_agree f r x y t h K := by
  unfold g_law12_agree
  rcases s with ⟨rfl, rfl⟩ | ⟨a, b, A, n, L, key, rfl, rfl, d, hm⟩
  · have nf : NilF none h := .inl rfl
    refine nMin nf _ _ _ ?_
    unfold g_ref12_Forest_Min
    refine nPathR h _ _ _ (cnd_t rfl (nMeet nf _ _ _ _ (nMeetR h _ _ _ _ (cnd_f rfl (cnd_f rfl (cnd_f rfl (cnd_f rfl (nConn nf _ _ _ ?_))))))))
    unfold g_ref12_Forest_Connected
    refine nPathR h _ _ _ (cnd_t rfl (nPathL nf _ _ _ (nPathR h _ _ _ ?_)))
    refine same12_spec (p := []) (q := []) ((Lst.nil h 1 0).rd) ((Lst.nil h 1 0).rd) (by simp) _ fun c ec => cnd_t (ec.2 rfl) (nDist nf _ _ _ ?_)
    unfold g_ref12_Forest_Dist
    refine nPathR h _ _ _ (cnd_t rfl (nSize nf _ _ ?_))
    unfold g_ref12_Forest_Size
    refine nHasR h _ _ (cnd_f rfl (cnd_t rfl (nTrees nf _ ?_)))
    unfold g_ref12_Forest_Trees
    refine nVal h _ (cnd_t rfl (cnd_t rfl (nKey nf _ _ ?_)))
    unfold g_ref12_Forest_Key
    exact nHasR h _ _ (cnd_t rfl (hK h (.inl ⟨rfl, rfl⟩) (Fr.refl _ _)))
  · have rg := d.lt.rg
    have fo := rg.fo
    obtain ⟨ga, gb⟩ := d.ge
    have tB : ∀ {g g' : Hp}, Fr B h g → FrB a b g g' → Fr B h g' := fun f1 f2 => f1.thenB f2 hB ga gb
    have tR : ∀ {g g' : Hp}, Fr B h g → Fr g.size g g' → Fr B h g' := fun f1 f2 => f1.trans (f2.mono (Nat.le_trans hB f1.size))
    refine T_min d.lt _ _ _ fun m1 x1 h3 p1 d3 f3 e3 k3 => ?_
    have d3 := d.l d3 f3
    have F := tB (Fr.refl B h) f3
    obtain ⟨k, e, rf, n1, n2, n3, n4⟩ := d3.rf
    refine rMin_spec rf rg _ _ _ fun m2 x2 h6 p2 f6 e6 k6 => ?_
    have d6 := d3.r f6
    have rf6 := rf.fr f6
    have F := tR F f6
    obtain rfl := e6.uniq fo e3
    obtain ⟨rfl, rfl⟩ := k6.uniq k3
    refine T_meet d6.lt _ _ _ _ fun m3 x3 h9 d9 f9 e9 => ?_
    have d9 := d6.l d9 f9
    have rf9 := rf6.frB f9 d.ne ⟨n1, n2⟩ ⟨n3, n4⟩
    have F := tB F f9
    refine rMeet_spec rf9 rg _ _ _ _ fun m4 x4 h12 f12 e12 => ?_
    have d12 := d9.r f12
    have rf12 := rf9.fr f12
    have F := tR F f12
    obtain ⟨rfl, rfl⟩ := meI.uniq fo e12 e9
    refine cnd_f (by simp) (cnd_f (by simp) (cnd_f (by simp) (cnd_f (by simp) ?_)))
    refine T_conn d12.lt _ _ _ fun c1 h14 d14 f14 e14 => ?_
    have d14 := d12.l d14 f14
    have rf14 := rf12.frB f14 d.ne ⟨n1, n2⟩ ⟨n3, n4⟩
    have F := tB F f14
    refine rConn_spec rf14 rg _ _ _ fun c2 h16 f16 e16 => ?_
    have d16 := d14.r f16
    have rf16 := rf14.fr f16
    have F := tR F f16
    obtain rfl : c1 = c2 := by rw [Bool.eq_iff_iff, e14, e16]
    refine cnd_t (by simp) ?_
    refine T_path d16.lt _ _ _ fun s1 h18 q1 d18 f18 l18 e18 => ?_
    have d18 := d16.l d18 f18
    have rf18 := rf16.frB f18 d.ne ⟨n1, n2⟩ ⟨n3, n4⟩
    have F := tB F f18
    refine rPath_spec rf18 rg _ _ _ fun s2 h20 q2 l20 f20 e20 => ?_
    have d20 := d18.r f20
    have rf20 := rf18.fr f20
    have F := tR F f20
    obtain rfl := e20.uniq fo e18
    have ql := (e20.le fun u v c hu => Cn_lt rg.bd c hu).1
    have hn := rg.hn
    refine same12_spec (l18.rd.fr f20) l20.rd (by omega) _ fun c3 ec => cnd_t (ec.2 rfl) ?_
    refine T_dist d20.lt _ _ _ fun h24 q3 d24 f24 e24 => ?_
    have d24 := d20.l d24 f24
    have rf24 := rf20.frB f24 d.ne ⟨n1, n2⟩ ⟨n3, n4⟩
    have F := tB F f24
    refine rDist_spec rf24 rg _ _ _ fun h26 q4 f26 e26 => ?_
    have d26 := d24.r f26
    have rf26 := rf24.fr f26
    have F := tR F f26
    obtain rfl := e26.uniq fo e24
    refine cnd_t (by simp) ?_
    refine T_size d26.lt _ _ fun r1 h28 d28 f28 e28 => ?_
    have d28 := d26.l d28 f28
    have rf28 := rf26.frB f28 d.ne ⟨n1, n2⟩ ⟨n3, n4⟩
    have F := tB F f28
    refine rSize_spec rf28 rg _ _ fun r2 h30 f30 e30 => ?_
    have d30 := d28.r f30
    have rf30 := rf28.fr f30
    have F := tR F f30
    obtain rfl := e30.uniq (fun _ _ => Iff.rfl) e28
    refine cnd_t (by simp) (T_trees d30.lt _ (rTrees_spec rf30 rg _ (cnd_t (by simp) (T_key d30.lt _ _ (rKey_spec rf30 _ _ ?_)))))
    have := hK h30 (.inr ⟨a, b, A, n, L, key, rfl, rfl, d30, hm⟩) F
    simpa using this

theorem s12_of {h h3 h13 : Hp} {a b A m : Nat} {k e : Sl} (d : LT h3 a b m [] (fun _ => 0)) (f3 : Fr h.size h h3) (ha : h.size ≤ a) (hb : h.size ≤ b) (rf : RF h13 A m [] (fun _ => 0) k e h3.size) (f13 : Fr h3.size h3 h13) : S12 h13 h.size (some ⟨a, 0, none⟩) (some ⟨A, 0, none⟩) 0 := by
  have hz := f3.size
  obtain ⟨la, lb, _⟩ := d.lt
  have lA := rf.lB
  refine .inr ⟨a, b, A, m, [], _, rfl, rfl, ⟨d.fr f13, ⟨k, e, ?_, fun x hx => ?_, fun x hx => ?_, fun x hx => ?_, fun x hx => ?_⟩, ⟨by omega, by omega⟩, ha, hb⟩, Nat.le_refl _⟩
  · obtain ⟨KL, l1, l2, l3⟩ := rf.kl
    exact ⟨rf.ha, rf.la, by omega, ⟨KL, l1.le hz, l2, l3⟩, rf.el.le hz, rf.n1, rf.n2, rf.n3⟩
  · have := (rf.kb hx).1; omega
  · have := (rf.kb hx).1; omega
  · have := (rf.eb hx).1; omega
  · have := (rf.eb hx).1; omega

theorem g_law12_LctNews_true (n x y : Int) (h : Hp) (K : Bool → Hp → Prop) (_ : -9223372036854775808 ≤ n ∧ n ≤ 9223372036854775807) (_ : -9223372036854775808 ≤ x ∧ x ≤ 9223372036854775807)
    (_ : -9223372036854775808 ≤ y ∧ y ≤ 9223372036854775807) (hK : ∀ h', K true h') : g_law12_LctNews n x y h K := by
  unfold g_law12_LctNews
  have fin : ∀ (f r : Option Addr) (h13 : Hp), S12 h13 h.size f r 0 → h.size ≤ h13.size → g_law12_agree f r x y x h13 fun r14 h15 => cnd r14 (g_law12_works h15 fun r16 h17 => K r16 h17) (K false h15) := fun f r h13 s hz =>
    agree_spec s hz _ _ _ _ fun h' _ _ => cnd_t rfl (works_spec _ _ fun h' _ => hK h')
  refine T_new n h _ (fun q => ?_) fun m hm hm2 h3 a b d f3 ha hb => ?_
  · refine jn_of (fun (st : Bool × Unit) g => st.1 = false ∧ g = h) ?_ fun K6 hK6 => ?_
    · rintro ⟨c, _⟩ g ⟨e, rfl⟩
      exact cnd_f e (rNew_spec n g _ (fun _ => cnd_t rfl (cnd_t rfl (fin _ _ g (.inl ⟨rfl, rfl⟩) (Nat.le_refl _)))) fun m hm hm2 => absurd ⟨by omega, by omega⟩ q)
    · exact cnd_of (fun c => hK6 _ _ ⟨by simp only [decide_eq_true_eq, decide_eq_false_iff_not] at c ⊢; omega, rfl⟩) fun c => hK6 _ _ ⟨rfl, rfl⟩
  · subst hm
    refine jn_of (fun (st : Bool × Unit) g => (st.1 = decide ((m : Int) > 2000)) ∧ g = h3) ?_ fun K6 hK6 => ?_
    · rintro ⟨c, _⟩ g ⟨e, rfl⟩
      refine cnd_of (fun _ => cnd_t rfl (T_trees d _ (cnd_t (by simp) (works_spec _ _ fun h' _ => hK h')))) fun _ => ?_
      refine rNew_spec m g _ (fun q => absurd ⟨by omega, by omega⟩ q) fun m' hm' _ h13 A k e rf f13 => ?_
      obtain rfl : m = m' := by omega
      exact cnd_t rfl (cnd_t rfl (fin _ _ h13 (s12_of d f3 ha hb rf f13) (Nat.le_trans f3.size f13.size)))
    · refine cnd_of (fun c => hK6 _ _ ⟨?_, rfl⟩) fun c => hK6 _ _ ⟨?_, rfl⟩
      · simp only [decide_eq_true_eq] at c
        simp only [decide_eq_decide]; omega
      · simp only [decide_eq_false_iff_not] at c
        simp only [Bool.false_eq, decide_eq_false_iff_not]; omega

theorem lkI.uniq {L : Es} {n : Nat} {x y r r' : Int} {L' L'' : Es} (h1 : lkI L n x y r L') (h2 : lkI L n x y r' L'') : r = r' ∧ L' = L'' := by
  unfold lkI at *
  unfold rng at *
  rcases h1 with ⟨rfl, rfl, a⟩ | ⟨rfl, rfl, a1, a2⟩ | ⟨u, v, a1, a2, a3, a4, a5, a⟩
  · rcases h2 with ⟨rfl, rfl, _⟩ | ⟨rfl, rfl, b1, b2⟩ | ⟨u', v', b1, b2, b3, b4, b5, _⟩
    · exact ⟨rfl, rfl⟩
    · exact absurd ⟨b1, by rw [← b2]; exact b1⟩ a
    · exact absurd ⟨⟨by omega, by omega⟩, by omega, by omega⟩ a
  · rcases h2 with ⟨rfl, rfl, b⟩ | ⟨rfl, rfl, _⟩ | ⟨u', v', b1, b2, b3, b4, b5, _⟩
    · exact absurd ⟨a1, by rw [← a2]; exact a1⟩ b
    · exact ⟨rfl, rfl⟩
    · omega
  · rcases h2 with ⟨rfl, rfl, b⟩ | ⟨rfl, rfl, _, b2⟩ | ⟨u', v', b1, b2, b3, b4, b5, b⟩
    · exact absurd ⟨⟨by omega, by omega⟩, by omega, by omega⟩ b
    · omega
    · obtain rfl : u = u' := by omega
      obtain rfl : v = v' := by omega
      rcases a with ⟨rfl, rfl, a⟩ | ⟨rfl, rfl, a⟩ <;> rcases b with ⟨rfl, rfl, b⟩ | ⟨rfl, rfl, b⟩
      · exact ⟨rfl, rfl⟩
      · exact absurd a b
      · exact absurd b a
      · exact ⟨rfl, rfl⟩

theorem lkI.len {L : Es} {n : Nat} {x y r : Int} {L' : Es} (h1 : lkI L n x y r L') : L'.length ≤ L.length + 1 := by
  rcases h1 with ⟨_, rfl, _⟩ | ⟨_, rfl, _⟩ | ⟨u, v, _, _, _, _, _, ⟨_, rfl, _⟩ | ⟨_, rfl, _⟩⟩
  · omega
  · omega
  · omega
  · simp

/-- After both did a step. -/
theorem PL.both {g g1 g2 : Hp} {a b A n : Nat} {L L1 : Es} {key key1 : Nat → Int} (d : PL g B a b A n L key) {k e k' e' : Sl} (hn : nb k a ∧ nb k b ∧ nb e a ∧ nb e b) (lt : LT g1 a b n L1 key1) (rf : RF g2 A n L1 key1 k' e' B) (f : FrR A k e k' e' g1 g2) : PL g2 B a b A n L1 key1 := by
  obtain ⟨h1, h2, h3, h4⟩ := hn
  obtain ⟨la, lb, _⟩ := lt.lt
  have ba := f.blk a la d.ne.1.symm h1 h3
  have bb := f.blk b lb d.ne.2.symm h2 h4
  exact ⟨lt.keep f.size ba.1 bb.1, ⟨k', e', rf, ba.2.1, bb.2.1, ba.2.2, bb.2.2⟩, d.ne, d.ge⟩

theorem FrR.fr {A : Nat} {k e k' e' : Sl} {g g1 g2 : Hp} (f : FrR A k e k' e' g1 g2) (f1 : Fr B g g1) (hB : B ≤ g.size) (hA : B ≤ A) (hk : ∀ x, k.a = some x → B ≤ x.block) (he : ∀ x, e.a = some x → B ≤ x.block) : Fr B g g2 :=
  ⟨Nat.le_trans f1.size f.size, fun c hc => ((f.blk c (by have := f1.size; omega) (by omega) (fun x hx => by have := hk x hx; omega) fun x hx => by have := he x hx; omega).1).trans (f1.blk c hc)⟩

set_option maxHeartbeats 1000000 in
theorem step_spec {f r : Option Addr} {m : Nat} (s : S12 h B f r m) (hB : B ≤ h.size) (hm : m + 1 < 2 ^ 40) (o x y v : Int) (K : Option Addr → Option Addr → Bool → Hp → Prop) (hK : ∀ f' r' h', S12 h' B f' r' (m + 1) → Fr B h h' → K f' r' true h') : g_law12_step f r o x y v h K := by
  unfold g_law12_step
  refine alo_of fun h2 z2 b2 k2 => ?_
  have f2 : Fr h.size h h2 := ⟨by omega, k2⟩
  have F2 : Fr B h h2 := f2.mono hB
  simp only [add_mk, Nat.zero_add, Nat.add_zero]
  have c0 : h2.cell ⟨h.size, 0, none⟩ = some (.int .i64 o) := by rw [cell_own b2]; rfl
  have c1 : h2.cell ⟨h.size, 1, none⟩ = some (.int .i64 x) := by rw [cell_own b2]; rfl
  have c2 : h2.cell ⟨h.size, 2, none⟩ = some (.int .i64 y) := by rw [cell_own b2]; rfl
  have c3 : h2.cell ⟨h.size, 3, none⟩ = some (.int .i64 v) := by rw [cell_own b2]; rfl
  rcases s with ⟨rfl, rfl⟩ | ⟨a, b, A, n, L, key, rfl, rfl, d, hL⟩
  · have nf : NilF none h2 := .inl rfl
    have fin : K none none true h2 := hK none none h2 (.inl ⟨rfl, rfl⟩) F2
    refine ldI_of c0 (cnd_of (fun _ => ldI_of c1 (ldI_of c2 (ldI_of c1 (ldI_of c2 (nLink nf _ _ _ ⟨c2, c1, ?_⟩))))) fun _ => cnd_of (fun _ => ldI_of c1 (ldI_of c2 (ldI_of c1 (ldI_of c2 (nCut nf _ _ _ ⟨c2, c1, ?_⟩))))) fun _ => cnd_of (fun _ => ldI_of c1 (ldI_of c3 (ldI_of c1 (ldI_of c3 (nSet nf _ _ _ ⟨c3, c1, ?_⟩))))) fun _ => cnd_of (fun _ => nCopy nf _ ?_) fun _ => fin)
    · unfold g_ref12_Forest_Link; exact nVal h2 _ (cnd_t rfl fin)
    · unfold g_ref12_Forest_Cut; exact nVal h2 _ (cnd_t rfl fin)
    · unfold g_ref12_Forest_Set; exact nVal h2 _ (cnd_t rfl fin)
    · unfold g_ref12_Forest_Copy; exact nVal h2 _ (cnd_t rfl fin)
  · have d2 := d.r f2
    obtain ⟨k, e, rf, n1, n2, n3, n4⟩ := d2.rf
    have rg := d.lt.rg
    obtain ⟨ga, gb⟩ := d.ge
    obtain ⟨la, lb, _⟩ := d.lt.lt
    have hB2 : B ≤ h2.size := by omega
    have kB : ∀ x, k.a = some x → B ≤ x.block := fun x hx => (rf.kb hx).1
    have eB : ∀ x, e.a = some x → B ≤ x.block := fun x hx => (rf.eb hx).1
    have AB := rf.lB
    have cell : ∀ g, FrB a b h2 g → ∀ i w, h2.cell ⟨h.size, i, none⟩ = some w → g.cell ⟨h.size, i, none⟩ = some w := fun g fg i w hw => by
      rw [cell_blk (h := h2) (fg.blk _ (by simp only; omega) (by simp only; omega) (by simp only; omega))]; exact hw
    refine ldI_of c0 (cnd_of (fun _ => ldI_of c1 (ldI_of c2 (ldI_of c1 (ldI_of c2 ?_)))) fun _ => cnd_of (fun _ => ldI_of c1 (ldI_of c2 (ldI_of c1 (ldI_of c2 ?_)))) fun _ => cnd_of (fun _ => ldI_of c1 (ldI_of c3 (ldI_of c1 (ldI_of c3 ?_)))) fun _ => cnd_of (fun _ => ?_) fun _ => ?_)
    · refine T_link d2.lt (by omega) _ _ _ fun r8 h9 L1 d9 f9 k9 => ⟨cell _ f9 _ _ c2, cell _ f9 _ _ c1, ?_⟩
      refine rLink_spec (rf.frB f9 d.ne ⟨n1, n2⟩ ⟨n3, n4⟩) rg _ _ _ fun r10 h11 L2 e' rf11 f11 k11 => ?_
      obtain ⟨rfl, rfl⟩ := k11.uniq k9
      have := k9.len
      rw [show (r10 == r10) = true by simp]
      exact hK _ _ h11 (.inr ⟨a, b, A, n, L2, key, rfl, rfl, d2.both ⟨n1, n2, n3, n4⟩ d9 rf11 f11, by omega⟩) (f11.fr (F2.thenB f9 hB ga gb) hB AB kB eB)
    · refine T_cut d2.lt _ _ _ (fun q => ⟨c2, c1, ?_⟩) (fun u' v' h17 hx hy hu hv d17 f17 hno => ⟨cell _ f17 _ _ c2, cell _ f17 _ _ c1, ?_⟩) fun u' v' h17 hx hy hu hv huv he hcut f17 => ⟨cell _ f17 _ _ c2, cell _ f17 _ _ c1, ?_⟩
      · refine rCut_spec rf rg _ _ _ (fun _ => ?_) (fun u v hx hy hu hv hn => absurd ⟨⟨by omega, by omega⟩, by omega, by omega⟩ q) fun u v i h' e' hx hy hu hv hi rf' f' => absurd ⟨⟨by omega, by omega⟩, by omega, by omega⟩ q
        exact hK _ _ h2 (.inr ⟨a, b, A, n, L, key, rfl, rfl, d2, by omega⟩) F2
      · refine rCut_spec (rf.frB f17 d.ne ⟨n1, n2⟩ ⟨n3, n4⟩) rg _ _ _ (fun q => absurd ⟨⟨by omega, by omega⟩, by omega, by omega⟩ q) (fun u v hx' hy' _ _ _ => ?_) fun u v i h' e' hx' hy' _ _ hi rf' f' => ?_
        · exact hK _ _ h17 (.inr ⟨a, b, A, n, L, key, rfl, rfl, d2.l d17 f17, by omega⟩) (F2.thenB f17 hB ga gb)
        · obtain rfl : u = u' := by omega
          obtain rfl : v = v' := by omega
          exact absurd (eL_edAt.2 ⟨i, hi⟩) hno
      · refine rCut_spec (rf.frB f17 d.ne ⟨n1, n2⟩ ⟨n3, n4⟩) rg _ _ _ (fun q => absurd ⟨⟨by omega, by omega⟩, by omega, by omega⟩ q) (fun u v hx' hy' _ _ hn => ?_) fun u v i h' e' hx' hy' _ _ hi rf' f' => ?_
        · obtain rfl : u = u' := by omega
          obtain rfl : v = v' := by omega
          exact absurd he hn
        · obtain rfl : u = u' := by omega
          obtain rfl : v = v' := by omega
          have hlen := (eL_erase rg.uq hi).2.2.1
          exact hK _ _ h' (.inr ⟨a, b, A, n, _, key, rfl, rfl, d2.both ⟨n1, n2, n3, n4⟩ (hcut i hi) rf' f', by omega⟩) (f'.fr (F2.thenB f17 hB ga gb) hB AB kB eB)
    · refine T_set d2.lt _ _ _ (fun q => ⟨c3, c1, ?_⟩) fun u h25 hx hu d25 f25 => ⟨cell _ f25 _ _ c3, cell _ f25 _ _ c1, ?_⟩
      · refine rSet_spec rf _ _ _ (fun _ => ?_) fun u h' hx hu _ _ => absurd ⟨by omega, by omega⟩ q
        exact hK _ _ h2 (.inr ⟨a, b, A, n, L, key, rfl, rfl, d2, by omega⟩) F2
      · refine rSet_spec (rf.frB f25 d.ne ⟨n1, n2⟩ ⟨n3, n4⟩) _ _ _ (fun q => absurd ⟨by omega, by omega⟩ q) fun u' h' hx' hu' rf' f' => ?_
        obtain rfl : u = u' := by omega
        exact hK _ _ h' (.inr ⟨a, b, A, n, L, _, rfl, rfl, d2.both ⟨n1, n2, n3, n4⟩ d25 rf' f', by omega⟩) (f'.fr (F2.thenB f25 hB ga gb) hB AB kB eB)
    · refine T_copy d2.lt _ fun h29 a' b' d29 _ f29 ha' hb' => ?_
      have rf29 := rf.fr f29
      have hz := f29.size
      obtain ⟨la', lb', _⟩ := d29.lt
      refine rCopy_spec rf29 rg _ fun h31 A' k' e' rf31 f31 => ?_
      have lA' := rf31.lB
      have F31 : Fr B h h31 := F2.trans ((f29.mono hB2).trans (f31.mono (by omega)))
      refine hK _ _ h31 (.inr ⟨a', b', A', n, L, key, rfl, rfl, ⟨d29.fr f31, ⟨k', e', ?_, fun x hx => ?_, fun x hx => ?_, fun x hx => ?_, fun x hx => ?_⟩, ⟨by omega, by omega⟩, by omega, by omega⟩, by omega⟩) F31
      · obtain ⟨KL, l1, l2, l3⟩ := rf31.kl
        exact ⟨rf31.ha, rf31.la, by omega, ⟨KL, l1.le (by omega), l2, l3⟩, rf31.el.le (by omega), rf31.n1, rf31.n2, rf31.n3⟩
      · have := (rf31.kb hx).1; omega
      · have := (rf31.kb hx).1; omega
      · have := (rf31.eb hx).1; omega
      · have := (rf31.eb hx).1; omega
    · exact hK _ _ h2 (.inr ⟨a, b, A, n, L, key, rfl, rfl, d2, by omega⟩) F2

theorem new2_spec (x : Int) (h2 : Hp) (K : Option Addr → Int → Option Addr → Int → Hp → Prop) (hK : ∀ f r e h8, (x ≤ 120 → S12 h8 h2.size f r 0) → Fr h2.size h2 h8 → K f e r e h8) : g_lct_New x h2 fun r3 r4 h5 => g_ref12_New x h5 fun r6 r7 h8 => K r3 r4 r6 r7 h8 := by
  refine T_new x h2 _ (fun q => rNew_spec x h2 _ (fun _ => hK none none 2 h2 (fun _ => .inl ⟨rfl, rfl⟩) (Fr.refl _ _)) fun m hm hm2 => absurd ⟨by omega, by omega⟩ q) fun m hm hm2 h5 a b d f5 ha hb => ?_
  refine rNew_spec x h5 _ (fun q => absurd ⟨by omega, by omega⟩ q) fun m' hm' _ h8 A k e rf f8 => ?_
  obtain rfl : m = m' := by omega
  exact hK _ _ 0 h8 (fun _ => s12_of d f5 ha hb rf f8) (f5.trans (f8.mono f5.size))

set_option maxHeartbeats 1000000 in
theorem g_law12_LctPlays_true (x : Int) (l : Sl) (v0 v1 v2 : Int) (h : Hp) (K : Bool → Hp → Prop) (_ : -9223372036854775808 ≤ x ∧ x ≤ 9223372036854775807) {M : List Int} (hM : Rd h 4 l (ints M)) (hy : l.n ≤ 2 ^ 63 - 1)
    (_ : ∀ x ∈ M, -9223372036854775808 ≤ x ∧ x ≤ 9223372036854775807) (_ : -9223372036854775808 ≤ v0 ∧ v0 ≤ 9223372036854775807) (_ : -9223372036854775808 ≤ v1 ∧ v1 ≤ 9223372036854775807) (_ : -9223372036854775808 ≤ v2 ∧ v2 ≤ 9223372036854775807) (hK : ∀ h', K true h') : g_law12_LctPlays x l v0 v1 v2 h K := by
  unfold g_law12_LctPlays
  refine alo_of fun h2 z2 b2 k2 => ?_
  refine new2_spec x h2 _ fun f r e h8 s f8 => ?_
  refine cnd_f (by simp) (cnd_of (fun _ => cnd_t (by simp) (works_spec _ _ fun h' _ => hK h')) fun c1 => cnd_of (fun _ => cnd_t (by simp) (works_spec _ _ fun h' _ => hK h')) fun c2 => ?_)
  simp only [decide_eq_false_iff_not, Int.ofNat_eq_natCast] at c1 c2
  refine for_of l.n (fun k (st : Option Addr × Option Addr × Int × Unit) g => st.2.2.1 = (k : Int) ∧ S12 g h2.size st.1 st.2.1 k ∧ Fr h2.size h2 g) ?_ ⟨rfl, s (by omega), f8⟩
  rintro k Kr ⟨f, r, st, _⟩ g hk ⟨rfl, sg, fg⟩ hKr
  simp only at sg
  refine cnd_of (fun c => ?_) fun c => works_spec _ _ fun h' _ => hK h'
  simp only [decide_eq_true_eq, Int.ofNat_eq_natCast] at c
  have hkl : k < l.n := by omega
  have hM2 : Rd h2 4 l (ints M) := hM.fr ⟨by omega, k2⟩
  have rd : ∀ g', Fr h2.size h2 g' → ∀ (X : Addr → Prop), (∀ a : Addr, (∀ m, m < 4 → g'.cell (a.add (k * 4 + m)) = some (.int .i64 (M.getD (k * 4 + m) 0))) → a.spot = none → X a) → ix l.a l.n (k : Int) X := fun g' fg' X hX => ix_rd (hM2.fr fg') (by omega) (by omega) (by omega) fun a ha hc => hX a (fun m hm => by simpa using hc m hm) ha
  have vc : ∀ g', Fr h2.size h2 g' → g'.cell (Addr.add ⟨h.size, 0, none⟩ (Int.toNat 0 * 1)) = some (.int .i64 v0) ∧ g'.cell (Addr.add ⟨h.size, 0, none⟩ (Int.toNat 1 * 1)) = some (.int .i64 v1) ∧ g'.cell (Addr.add ⟨h.size, 0, none⟩ (Int.toNat 2 * 1)) = some (.int .i64 v2) := fun g' fg' => by
    have hb := (fg'.blk h.size (by omega)).trans b2
    refine ⟨?_, ?_, ?_⟩ <;> rw [add_mk, cell_own hb] <;> rfl
  refine rd g fg _ fun a1 x1 s1 => ?_
  simp only [add_add _ _ _ s1, Int.toNat_natCast]
  refine ldI_of (x1 0 (by omega)) (ldI_of (x1 1 (by omega)) (ldI_of (x1 2 (by omega)) (ldI_of (x1 3 (by omega)) ?_)))
  refine step_spec sg fg.size (by omega) _ _ _ _ _ fun f' r' h26 s26 f26 => cnd_f rfl ?_
  have F26 := fg.trans f26
  refine rd h26 F26 _ fun a2 x2 s2 => ?_
  simp only [add_add _ _ _ s2, Int.toNat_natCast]
  refine ldI_of (x2 1 (by omega)) (rd h26 F26 _ fun a3 x3 s3 => ?_)
  simp only [add_add _ _ _ s3, Int.toNat_natCast]
  refine ldI_of (x3 2 (by omega)) ⟨by omega, by omega, ldI_of (vc _ F26).1 ?_⟩
  refine agree_spec s26 F26.size _ _ _ _ fun h33 s33 f33 => cnd_f rfl ?_
  have F33 := F26.trans f33
  refine ⟨by omega, by omega, ldI_of (vc _ F33).1 ⟨by omega, by omega, ldI_of (vc _ F33).2.1 ⟨by omega, by omega, ldI_of (vc _ F33).2.2 ?_⟩⟩⟩
  refine agree_spec s33 F33.size _ _ _ _ fun h38 s38 f38 => cnd_f rfl (hKr hkl _ _ ⟨wsucc (by omega), s38, F33.trans f38⟩)
end

end Go.Hx
