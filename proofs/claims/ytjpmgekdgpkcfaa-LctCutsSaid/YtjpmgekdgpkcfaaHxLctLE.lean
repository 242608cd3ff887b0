/- Link-cut forests: the law on cuts. No condition. -/
import Derived.Test.YtjpmgekdgpkcfaaHxLctLC
namespace Go.Hx
set_option linter.unusedSimpArgs false
set_option linter.unusedVariables false

theorem wk_cut {L L' : Es} {u v : Nat} (he : ∀ p q, eL L' p q ↔ eL L p q ∧ ¬ ((p = u ∧ q = v) ∨ (p = v ∧ q = u))) {p : List Nat} (nd : p.Nodup) (w : wk (eL L) p) (hu : u ∉ p.tail) (hh : ∀ y r, p = u :: y :: r → y ≠ v) : wk (eL L') p := by
  induction p with
  | nil => trivial
  | cons x r ih =>
    cases r with
    | nil => exact ⟨trivial, trivial⟩
    | cons y r =>
      rw [wk_cons2] at w ⊢
      rw [List.nodup_cons] at nd
      simp only [List.tail_cons, List.mem_cons, not_or] at hu
      refine ⟨(he _ _).2 ⟨w.1, ?_⟩, ih nd.2 w.2 hu.2 fun y' r' e => ?_⟩
      · rintro (⟨rfl, rfl⟩ | ⟨_, rfl⟩)
        · exact hh _ _ rfl rfl
        · exact hu.1 rfl
      · simp only [List.cons.injEq] at e
        exact absurd e.1.symm hu.1

/-- What a cut leaves connected with one of the ends. -/
theorem cut_cn {L L' : Es} (d : FO (eL L)) (d' : FO (eL L')) {u v z : Nat} (he : ∀ p q, eL L' p q ↔ eL L p q ∧ ¬ ((p = u ∧ q = v) ∨ (p = v ∧ q = u))) {p : List Nat} (hp : SP (eL L) u z p) : Cn (eL L') u z ↔ ¬ (1 < p.length ∧ p.getD 1 0 = v) := by
  constructor
  · rintro c ⟨h1, h2⟩
    obtain ⟨p', hp'⟩ := d'.ex c
    have : SP (eL L) u z p' := ⟨hp'.hd, hp'.ls, wk_mono (fun a b g => ((he a b).1 g).1) hp'.wk, hp'.nd⟩
    obtain rfl := d.uniq hp this
    have e := wk_get hp'.wk (i := 0) (by omega)
    have hd := hp.hd
    rw [List.head?_eq_getElem?] at hd
    have h0 : p.getD 0 0 = u := by simp [List.getD, hd]
    rw [h0, h2] at e
    exact ((he _ _).1 e).2 (.inl ⟨rfl, rfl⟩)
  · intro hno
    have : SP (eL L') u z p := by
      refine ⟨hp.hd, hp.ls, wk_cut he hp.nd hp.wk ?_ ?_, hp.nd⟩
      · cases p with
        | nil => simp
        | cons x r =>
          have := hp.hd
          simp only [List.head?_cons, Option.some.injEq] at this
          subst this
          have := hp.nd
          rw [List.nodup_cons] at this
          exact this.1
      · rintro y r rfl e
        exact hno ⟨by simp, by simpa using e⟩
    exact this.Cn

set_option maxHeartbeats 2000000 in
theorem g_law12_LctCuts_true (x : Int) (l : Sl) (wh : Int) (h : Hp) (K : Bool → Hp → Prop) (_ : -9223372036854775808 ≤ x ∧ x ≤ 9223372036854775807) {M : List Int} (hM : Rd h 2 l (ints M)) (hy : l.n ≤ 2 ^ 63 - 1)
    (_ : ∀ x ∈ M, -9223372036854775808 ≤ x ∧ x ≤ 9223372036854775807) (hw : 0 ≤ wh ∧ wh ≤ 255) (hK : ∀ h', K true h') : g_law12_LctCuts x l wh h K := by
  unfold g_law12_LctCuts
  refine cnd_of (fun _ => works_spec _ _ fun h' _ => hK h') fun c1 => cnd_of (fun _ => works_spec _ _ fun h' _ => hK h') fun c2 => cnd_of (fun _ => works_spec _ _ fun h' _ => hK h') fun c3 => ?_
  simp only [decide_eq_false_iff_not, Int.ofNat_eq_natCast] at c1 c2 c3
  obtain ⟨n, rfl⟩ : ∃ n : Nat, x = n := ⟨x.toNat, by omega⟩
  refine grown_spec n (by omega) hM (by omega) (fun _ _ => True) trivial (fun _ _ _ _ _ _ _ _ _ => trivial) _ fun h9 a b L s d f9 ha hb ls na nbb hL _ => cnd_f rfl (cnd_of (fun _ => works_spec _ _ fun h' _ => hK h') fun c4 => ?_)
  have fo := d.fo
  have bd := d.bd
  have uq := d.uq
  have sn := ls.1
  rw [ints_len, flE_len] at sn
  simp only [beq_eq_false_iff_ne, Int.ofNat_eq_natCast] at c4
  have hz9 := f9.size
  have lt9 := d.lt
  have w1 : w64 wh = wh := by rw [w64, w64_eq (by omega) (by omega)]
  obtain ⟨i, hi⟩ : ∃ i : Nat, i = wh.toNat % L.length := ⟨_, rfl⟩
  have hiL : i < L.length := by rw [hi]; exact Nat.mod_lt _ (by omega)
  have w2 : Int.tmod (w64 wh) (Int.ofNat s.n) = (i : Int) := by
    rw [w1, show wh = ((wh.toNat : Nat) : Int) by omega, show s.n = L.length by omega, hi]; rfl
  refine ⟨by simp only [Int.ofNat_eq_natCast]; omega, ?_⟩
  rw [w2]
  obtain ⟨⟨u, v⟩, he⟩ : ∃ e, L[i]? = some e := ⟨_, List.getElem?_eq_getElem hiL⟩
  obtain ⟨g1, g2⟩ := flE_get he
  have hm : (u, v) ∈ L := List.mem_iff_getElem?.2 ⟨i, he⟩
  have hbd := bd _ hm
  simp only at hbd
  have eUV : eL L u v := .inl hm
  have huv : u ≠ v := fun q => by subst q; exact fo.noloop u eUV
  refine ix_rd ls.rd (by omega) (by omega) (by omega) fun a1 y1 x1 => ?_
  have x10 := x1 0 (by omega)
  have x11 := x1 1 (by omega)
  simp only [add_add _ _ _ y1, Int.toNat_natCast, Nat.add_zero, g1, g2] at x10 x11 ⊢
  refine ldI_of x10 (ldI_of x11 (alo_of fun h16 z16 b16 k16 => ?_))
  simp only [add_mk, Nat.zero_add]
  refine stc_of b16 (by simp) fun h17 z17 b17 k17 => stc_of b17 (by simp) fun h18 z18 b18 k18 => ?_
  simp only [List.set_cons_zero, List.set_cons_succ] at b18
  have f18 : Fr h9.size h9 h18 := ⟨by omega, fun c hc => by rw [k18 c (by omega), k17 c (by omega), k16 c hc]⟩
  have d18 := d.fr f18
  refine T_copy d18 _ fun h20 a2 b2 g20 d20 f20 ha2 hb2 => cnd_f rfl ?_
  have ab2 : a2 ≠ a ∧ a2 ≠ b ∧ b2 ≠ a ∧ b2 ≠ b := ⟨by omega, by omega, by omega, by omega⟩
  -- the pair's cells
  obtain ⟨V, hV⟩ : ∃ V : Nat → Nat, V = fun i => [u, v].getD i 0 := ⟨_, rfl⟩
  have V0 : V 0 = u := by rw [hV]; rfl
  have V1 : V 1 = v := by rw [hV]; rfl
  have b20 : h20.blk h9.size = some (.cells [.int .i64 (u : Int), .int .i64 (v : Int)]) := (f20.blk _ (by omega)).trans b18
  obtain ⟨Q, hQ⟩ : ∃ Q : Hp → Prop, Q = fun g => g.blk h9.size = some (.cells [.int .i64 (u : Int), .int .i64 (v : Int)]) ∧ h9.size < g.size := ⟨_, rfl⟩
  have Q20 : Q h20 := by rw [hQ]; exact ⟨b20, by have := f20.size; omega⟩
  have Qf : ∀ {g g' : Hp}, Q g → FrB a b g g' → Q g' := fun {g g'} q f => by
    rw [hQ] at q ⊢
    exact ⟨(f.blk _ q.2 (by omega) (by omega)).trans q.1, by have := f.size; omega⟩
  have Qg : ∀ {g g' : Hp}, Q g → FrB a2 b2 g g' → Q g' := fun {g g'} q f => by
    rw [hQ] at q ⊢
    exact ⟨(f.blk _ q.2 (by omega) (by omega)).trans q.1, by have := f.size; omega⟩
  have c0 : ∀ g, Q g → g.cell (Addr.mk h9.size (Int.toNat 0 * 1) none) = some (.int .i64 (u : Int)) := fun g q => by
    rw [hQ] at q; rw [cell_own q.1]; rfl
  have c1 : ∀ g, Q g → g.cell (Addr.mk h9.size (Int.toNat 1 * 1) none) = some (.int .i64 (v : Int)) := fun g q => by
    rw [hQ] at q; rw [cell_own q.1]; rfl
  simp only [Nat.add_zero, Nat.zero_add]
  refine ⟨by omega, by omega, ldI_of (c0 _ Q20) ⟨by omega, by omega, ldI_of (c1 _ Q20) ?_⟩⟩
  refine T_cut g20 _ _ _ (fun q => absurd ⟨⟨by omega, by omega⟩, by omega, by omega⟩ q) (fun u' v' h' h1 h2 _ _ _ _ hn => ?_) fun u' v' h24 h1 h2 _ _ _ _ hcut f24 => ?_
  · obtain rfl : u = u' := by omega
    obtain rfl : v = v' := by omega
    exact absurd eUV hn
  obtain rfl : u = u' := by omega
  obtain rfl : v = v' := by omega
  have g24 := hcut i (.inl he)
  have d24 := d20.other f24 ⟨ab2.1.symm, ab2.2.2.1.symm⟩ ⟨ab2.2.1.symm, ab2.2.2.2.symm⟩
  have Q24 := Qg Q20 f24
  obtain ⟨he', _, hlen', _⟩ := eL_erase uq (i := i) (u := u) (v := v) (.inl he)
  have fo' := g24.fo
  have bd' := g24.bd
  refine cnd_f rfl (T_trees g24 _ (T_trees d24 _ (cnd_f ?_ ?_)))
  · have : w64 ((n : Int) - (L.length : Nat) + 1) = (n : Int) - ((L.eraseIdx i).length : Nat) := by rw [w64, w64_eq (by omega) (by omega)]; omega
    rw [this]; simp
  have nocnUV : ¬ Cn (eL (L.eraseIdx i)) u v := fun c => (cut_cn fo fo' he' (SP.two eUV huv)).1 c ⟨by simp, rfl⟩
  refine jn_of (fun _ g => LT g a b n L (fun _ => 0) ∧ LT g a2 b2 n (L.eraseIdx i) (fun _ => 0) ∧ Q g) ?_ fun K31 hK31 => ?_
  rotate_left
  · refine for_of n (fun k (st : Int × Unit) g => st.1 = (k : Int) ∧ LT g a b n L (fun _ => 0) ∧ LT g a2 b2 n (L.eraseIdx i) (fun _ => 0) ∧ Q g) ?_ ⟨rfl, d24, g24, Q24⟩
    rintro k Kr ⟨st, _⟩ g hk ⟨rfl, dg, gg, Qg0⟩ hKr
    refine cnd_of (fun c => ?_) fun c => hK31 _ _ ⟨dg, gg, Qg0⟩
    simp only [decide_eq_true_eq] at c
    have hkn : k < n := by omega
    refine ⟨by omega, by omega, ldI_of (c0 _ Qg0) ?_⟩
    refine T_path dg _ _ _ fun s1 h58 p d58 f58 l58 hp => ?_
    have g58 := gg.other f58 ⟨ab2.1, ab2.2.1⟩ ⟨ab2.2.2.1, ab2.2.2.2⟩
    have Q58 := Qf Qg0 f58
    have l58n := l58.1
    rw [ints_len, nats_len] at l58n
    refine jn_of (fun (st : Bool × Unit) g' => g' = h58 ∧ (st.1 = true ↔ 1 < p.length ∧ p.getD 1 0 = v)) ?_ fun K61 hK61 => ?_
    rotate_left
    · refine cnd_of (fun c5 => ?_) fun c5 => hK61 _ _ ⟨rfl, fun e => (by cases e), fun e => ?_⟩
      · simp only [decide_eq_true_eq, Int.ofNat_eq_natCast] at c5
        refine ix_ld1 l58.rd (by omega) (by omega) rfl ⟨by omega, by omega, ldI_of (c1 _ Q58) (hK61 _ _ ⟨rfl, ?_⟩)⟩
        simp only [show Int.toNat 1 = 1 from rfl, nats_getD, beq_iff_eq]
        omega
      · simp only [decide_eq_false_iff_not, Int.ofNat_eq_natCast] at c5; omega
    rintro ⟨ov, _⟩ _ ⟨rfl, hov⟩
    simp only at hov
    refine ⟨by omega, by omega, ldI_of (c0 _ Q58) ⟨by omega, by omega, ldI_of (c0 _ Q58) ?_⟩⟩
    refine T_conn g58 _ _ _ fun r64 h65 g65 f65 e65 => ?_
    have Q65 := Qg Q58 f65
    have d65 := d58.other f65 ⟨ab2.1.symm, ab2.2.2.1.symm⟩ ⟨ab2.2.1.symm, ab2.2.2.2.symm⟩
    refine ⟨c0 _ Q65, ?_⟩
    refine T_conn d65 _ _ _ fun r66 h67 d67 f67 e67 => ?_
    have g67 := g65.other f67 ⟨ab2.1, ab2.2.1⟩ ⟨ab2.2.2.1, ab2.2.2.2⟩
    have fin := hKr hkn (w64 ((k : Int) + 1), ()) h67 ⟨wsucc (by omega), d67, g67, Qf Q65 f67⟩
    have key : r64 = (r66 && !ov) := by
      rw [Bool.eq_iff_iff, Bool.and_eq_true, e65, e67]
      constructor
      · rintro ⟨u', z, h1, h2, _, hz, c⟩
        obtain rfl : u = u' := by omega
        obtain rfl : k = z := by omega
        have cL : Cn (eL L) u k := c.mono fun a b g => ((he' a b).1 g).1
        refine ⟨⟨u, k, rfl, rfl, hbd.1, hkn, cL⟩, ?_⟩
        rcases hp with ⟨_, hp⟩ | ⟨u', z, h1, h2, _, _, sp⟩
        · exact absurd cL (hp u k rfl rfl hbd.1 hkn)
        · obtain rfl : u = u' := by omega
          obtain rfl : k = z := by omega
          have := (cut_cn fo fo' he' sp).1 c
          rw [← hov] at this
          simpa using this
      · rintro ⟨⟨u', z, h1, h2, _, hz, cL⟩, ho⟩
        obtain rfl : u = u' := by omega
        obtain rfl : k = z := by omega
        rcases hp with ⟨_, hp⟩ | ⟨u', z, h1, h2, _, _, sp⟩
        · exact absurd cL (hp u k rfl rfl hbd.1 hkn)
        · obtain rfl : u = u' := by omega
          obtain rfl : k = z := by omega
          refine ⟨u, k, rfl, rfl, hbd.1, hkn, (cut_cn fo fo' he' sp).2 ?_⟩
          rw [← hov]
          simpa using ho
    refine cnd_of (fun q => cnd_f (by rw [key, q]; simp) fin) fun q => cnd_f (by rw [key, q]; simp) fin
  rintro ⟨⟩ h30 ⟨d30, g30, Q30⟩
  refine ⟨by omega, by omega, ldI_of (c0 _ Q30) ⟨by omega, by omega, ldI_of (c1 _ Q30) ?_⟩⟩
  refine T_cut g30 _ _ _ (fun q => absurd ⟨⟨by omega, by omega⟩, by omega, by omega⟩ q) (fun u' v' h35 h1 h2 _ _ g35 f35 hn => cnd_f rfl ?_) fun u' v' h24 h1 h2 _ _ _ e _ _ => ?_
  rotate_left
  · obtain rfl : u = u' := by omega
    obtain rfl : v = v' := by omega
    exact absurd (.inl ⟨rfl, rfl⟩) ((he' u v).1 e).2
  have Q35 := Qg Q30 f35
  have d35 := d30.other f35 ⟨ab2.1.symm, ab2.2.2.1.symm⟩ ⟨ab2.2.1.symm, ab2.2.2.2.symm⟩
  refine ⟨by omega, by omega, ldI_of (c1 _ Q35) ⟨by omega, by omega, ldI_of (c0 _ Q35) ?_⟩⟩
  refine T_link g35 (by omega) _ _ _ fun r38 h39 L2 g39 f39 k39 => ?_
  obtain ⟨rfl, rfl⟩ := lk_ok (u := v) (v := u) k39 rfl rfl hbd.2 hbd.1 huv.symm fun c => nocnUV c.symm
  have d39 := d35.other f39 ⟨ab2.1.symm, ab2.2.2.1.symm⟩ ⟨ab2.2.1.symm, ab2.2.2.2.symm⟩
  have Q39 := Qg Q35 f39
  have same : ∀ p q, eL (L.eraseIdx i ++ [(v, u)]) p q ↔ eL L p q := fun p q => by
    rw [eL_app, he']
    constructor
    · rintro (g | ⟨rfl, rfl⟩ | ⟨rfl, rfl⟩)
      · exact g.1
      · exact eUV.symm
      · exact eUV
    · intro g
      by_cases e : (p = u ∧ q = v) ∨ (p = v ∧ q = u)
      · exact .inr e.symm
      · exact .inl ⟨g, e⟩
  refine cnd_f rfl ?_
  refine for_of n (fun k (st : Int × Unit) g => st.1 = (k : Int) ∧ LT g a b n L (fun _ => 0) ∧ LT g a2 b2 n (L.eraseIdx i ++ [(v, u)]) (fun _ => 0) ∧ Q g) ?_ ⟨rfl, d39, g39, Q39⟩
  rintro k Kr ⟨st, _⟩ g hk ⟨rfl, dg, gg, Qg0⟩ hKr
  refine cnd_of (fun c => ?_) fun c => works_spec _ _ fun h' _ => hK h'
  simp only [decide_eq_true_eq] at c
  have hkn : k < n := by omega
  refine ⟨by omega, by omega, ldI_of (c0 _ Qg0) ⟨by omega, by omega, ldI_of (c0 _ Qg0) ?_⟩⟩
  refine T_path gg _ _ _ fun s1 h46 p g46 f46 l46 hp => ?_
  have Q46 := Qg Qg0 f46
  have d46 := dg.other f46 ⟨ab2.1.symm, ab2.2.2.1.symm⟩ ⟨ab2.2.1.symm, ab2.2.2.2.symm⟩
  refine ⟨c0 _ Q46, ?_⟩
  refine T_path d46 _ _ _ fun s2 h48 p' d48 f48 l48 hp' => ?_
  have g48 := g46.other f48 ⟨ab2.1, ab2.2.1⟩ ⟨ab2.2.2.1, ab2.2.2.2⟩
  obtain rfl := hp'.uniq fo (hp.congr same)
  have hple := (hp'.le fun u v c hu => Cn_lt bd c hu).1
  have l46' : Lst h48 1 s1 (ints (nats p')) g.size := l46.keepB f48 (fun y hy => by have := (l46.blk_lt hy).1; have := dg.lt; omega) fun y hy => by have := (l46.blk_lt hy).1; have := dg.lt; omega
  refine same12_spec l46'.rd l48.rd (by omega) _ fun r49 e49 => cnd_f (by rw [e49.2 rfl]; rfl) (hKr hkn _ _ ⟨wsucc (by omega), d48, g48, Qf Q46 f48⟩)

end Go.Hx
