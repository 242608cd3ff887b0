/- Link-cut forests: the law on numbers of trees and vertices. No condition. -/
import Derived.Test.YtjpmgekdgpkcfaaHxLctLC
import Derived.Test.YtjpmgekdgpkcfaaHxDsuT
namespace Go.Hx
set_option linter.unusedSimpArgs false
set_option linter.unusedVariables false

def dE (L : Es) (u v : Nat) : Prop := (u, v) ∈ L
theorem dE_Cn {L : Es} {u v : Nat} : Cn (dE L) u v ↔ Cn (eL L) u v := by
  refine ⟨fun c => c.mono fun a b h => .inl h, fun c => ?_⟩
  induction c with
  | refl => exact .refl _
  | fwd _ e ih => rcases e with e | e; exact .fwd ih e; exact .bwd ih e
  | bwd _ e ih => rcases e with e | e; exact .bwd ih e; exact .fwd ih e

/-- Labels of the trees, and how many there are. -/
def CTs (L : Es) (n : Nat) : Prop := ∃ B, LC (dE L) n B ∧ cntB n (fun k => gt B k == k) + L.length = n

theorem CTs.start (n : Nat) : CTs [] n := by
  have d := LC.start n
  refine ⟨idL n, ⟨d.len, d.le, fun v hv => (d.con v hv).mono fun _ _ h => h.elim, fun u v h => by cases h⟩, ?_⟩
  have : cntB n (fun k => gt (idL n) k == k) = cntB n fun _ => true := cntB_congr fun i hi => by rw [idL_gt hi]; exact beq_self_eq_true i
  rw [this]
  have : ∀ m, cntB m (fun _ => true) = m := fun m => by
    induction m with
    | zero => rfl
    | succ m ih => rw [cntB_succ, ih]; rfl
  rw [this]; rfl

theorem CTs.link {L : Es} {n : Nat} (d : CTs L n) (bd : ∀ e, e ∈ L → e.1 < n ∧ e.2 < n) {u v : Nat} (hu : u < n) (hv : v < n) (hc : ¬ Cn (eL L) u v) : CTs (L ++ [(u, v)]) n := by
  obtain ⟨B, d, hB⟩ := d
  have hne : gt B u ≠ gt B v := fun e => hc (dE_Cn.1 ((d.iff hu hv).1 e))
  have d2 := d.union (fun p q h => bd _ h) hu hv
  rw [if_neg hne] at d2
  refine ⟨_, ⟨d2.len, d2.le, fun w hw => (d2.con w hw).mono fun p q h => ?_, fun p q h => d2.ed p q ?_⟩, ?_⟩
  · rcases h with h | ⟨rfl, rfl⟩
    · exact List.mem_append_left _ h
    · exact List.mem_append_right _ (by simp)
  · rcases List.mem_append.1 h with h | h
    · exact .inl h
    · simp only [List.mem_singleton, Prod.mk.injEq] at h; exact .inr h
  · obtain ⟨x, hx⟩ : ∃ x, x = gt B u := ⟨_, rfl⟩
    obtain ⟨y, hy⟩ : ∃ y, y = gt B v := ⟨_, rfl⟩
    rw [← hx, ← hy] at hne ⊢
    have fx : gt B x = x := by rw [hx]; exact ((d.con u hu).inv (gt B) d.ed).symm
    have fy : gt B y = y := by rw [hy]; exact ((d.con v hv).inv (gt B) d.ed).symm
    have xn : x < n := by have := d.le u hu; omega
    have yn : y < n := by have := d.le v hv; omega
    have fM : gt B (max x y) = max x y := by
      rcases Nat.le_total x y with q | q
      · rw [Nat.max_eq_right q, fy]
      · rw [Nat.max_eq_left q, fx]
    have fm : gt B (min x y) = min x y := by
      rcases Nat.le_total x y with q | q
      · rw [Nat.min_eq_left q, fx]
      · rw [Nat.min_eq_right q, fy]
    have g : ∀ i, i < n → gt (mergeL B x y) i = if gt B i = max x y then min x y else gt B i := fun i hi => mergeL_gt _ _ _ (by rw [d.len]; exact hi)
    have : cntB n (fun k => gt B k == k) = cntB n (fun k => gt (mergeL B x y) k == k) + 1 := by
      refine cntB_del (k := max x y) (by omega) (by rw [beq_iff_eq]; exact fM) ?_ fun i hi hne2 => ?_
      · rw [g _ (by omega), if_pos fM, beq_eq_false_iff_ne]; omega
      · simp only [g i hi]
        by_cases e : gt B i = max x y
        · rw [if_pos e, e]
          have h1 : (max x y == i) = false := by rw [beq_eq_false_iff_ne]; omega
          have h2 : (min x y == i) = false := by
            rw [beq_eq_false_iff_ne]
            intro q
            rw [← q, fm] at e; omega
          rw [h1, h2]
        · rw [if_neg e]
    rw [List.length_append]
    simp only [List.length_cons, List.length_nil]
    omega

set_option maxHeartbeats 1000000 in
theorem g_law12_LctCounts_true (x : Int) (l : Sl) (h : Hp) (K : Bool → Hp → Prop) (_ : -9223372036854775808 ≤ x ∧ x ≤ 9223372036854775807) {M : List Int} (hM : Rd h 2 l (ints M)) (hy : l.n ≤ 2 ^ 63 - 1)
    (_ : ∀ x ∈ M, -9223372036854775808 ≤ x ∧ x ≤ 9223372036854775807) (hK : ∀ h', K true h') : g_law12_LctCounts x l h K := by
  unfold g_law12_LctCounts
  refine small12_spec _ _ _ _ fun r1 e1 => cnd_of (fun _ => works_spec _ _ fun h' _ => hK h') fun q => ?_
  obtain ⟨⟨q1, q2⟩, q3⟩ := e1.1 (by simpa using q)
  obtain ⟨n, rfl⟩ : ∃ n : Nat, x = n := ⟨x.toNat, by omega⟩
  refine T_new _ h _ (fun q => absurd ⟨by omega, by omega⟩ q) fun m hm _ h7 a b d7 f7 ha hb => ?_
  obtain rfl : n = m := by omega
  refine cnd_f rfl ?_
  have th : ∀ {g g' : Hp}, Fr h.size h g → FrB a b g g' → Fr h.size h g' := fun f g => f.thenB g (Nat.le_refl _) ha hb
  refine jn_of (fun _ g => ∃ L, LT g a b n L (fun _ => 0) ∧ CTs L n) ?_ fun K10 hK10 => ?_
  rotate_left
  · refine for_of l.n (fun k (st : Int × Int × Unit) g => st.2.1 = (k : Int) ∧ Fr h.size h g ∧ ∃ L, st.1 = (L.length : Nat) ∧ L.length ≤ k ∧ LT g a b n L (fun _ => 0) ∧ CTs L n) ?_ ⟨rfl, f7, [], rfl, Nat.le_refl _, d7, CTs.start n⟩
    rintro k Kr ⟨e, st, _⟩ g hk ⟨rfl, fg, L, rfl, hL, dg, ct⟩ hKr
    refine cnd_of (fun c => ?_) fun c => hK10 _ _ ⟨L, dg, ct⟩
    simp only [decide_eq_true_eq, Int.ofNat_eq_natCast] at c
    have hkl : k < l.n := by omega
    have rd : ∀ g', Fr h.size h g' → ∀ (X : Addr → Prop), (∀ a : Addr, (∀ m, m < 2 → g'.cell (a.add (k * 2 + m)) = some (.int .i64 (M.getD (k * 2 + m) 0))) → a.spot = none → X a) → ix l.a l.n (k : Int) X := fun g' fg' X hX => ix_rd (hM.fr fg') (by omega) (by omega) (by omega) fun a ha hc => hX a (fun m hm => by simpa using hc m hm) ha
    refine rd g fg _ fun a1 c1 s1 => ⟨by omega, by omega, ?_⟩
    simp only [add_add _ _ _ s1, Int.toNat_natCast]
    refine ldI_of (c1 0 (by omega)) (rd g fg _ fun a2 c2 s2 => ⟨by omega, by omega, ?_⟩)
    simp only [add_add _ _ _ s2, Int.toNat_natCast]
    refine ldI_of (c2 1 (by omega)) (T_conn dg _ _ _ fun was h39 d39 f39 e39 => ?_)
    have f39' := th fg f39
    refine rd h39 f39' _ fun a3 c3 s3 => ⟨by omega, by omega, ?_⟩
    simp only [add_add _ _ _ s3, Int.toNat_natCast]
    refine ldI_of (c3 0 (by omega)) (rd h39 f39' _ fun a4 c4 s4 => ⟨by omega, by omega, ?_⟩)
    simp only [add_add _ _ _ s4, Int.toNat_natCast]
    refine ldI_of (c4 1 (by omega)) ?_
    simp only [Nat.add_zero] at e39 ⊢
    refine T_link d39 (by omega) _ _ _ fun r h45 L' d45 f45 lk => ?_
    have f45' := th f39' f45
    have wk1 := wsucc (k := k) (by omega)
    obtain ⟨hL', ct', hwas0, hwas6, hL0⟩ : L'.length ≤ k + 1 ∧ CTs L' n ∧ (r = 0 → was = false) ∧ (r = 6 → was = true) ∧ L'.length = L.length + (if r = 0 then 1 else 0) := by
      rcases lk with ⟨rfl, rfl, _⟩ | ⟨rfl, rfl, _⟩ | ⟨u, v, hx, hy', hu, hv, _, ⟨rfl, rfl, hc⟩ | ⟨rfl, rfl, hc⟩⟩
      · exact ⟨by omega, ct, by omega, by omega, by simp⟩
      · exact ⟨by omega, ct, by omega, by omega, by simp⟩
      · exact ⟨by omega, ct, by omega, fun _ => e39.2 ⟨u, v, hx, hy', hu, hv, hc⟩, by simp⟩
      · refine ⟨by simp; omega, ct.link dg.bd hu hv hc, fun _ => ?_, by omega, by simp⟩
        rw [Bool.eq_false_iff]
        intro q
        obtain ⟨u', v', h1, h2, _, _, g⟩ := e39.1 q
        obtain rfl : u = u' := by omega
        obtain rfl : v = v' := by omega
        exact hc g
    have fin : ∀ h', h' = h45 → Kr (((L'.length : Nat) : Int), w64 ((k : Int) + 1), ()) h' := fun h' e => by
      subst e; exact hKr hkl _ _ ⟨wk1, f45', L', rfl, hL', d45, ct'⟩
    have tr : ∀ (K : Int → Hp → Prop), K ((n : Int) - L'.length) h45 → g_lct_Forest_Trees (some ⟨a, 0, none⟩) h45 K := fun K hk => T_trees d45 K hk
    have wt : ∀ e : Int, e = (L'.length : Nat) → (((n : Int) - L'.length) != (w64 ((n : Int) - e))) = false := fun e he => by
      rw [he, w64, w64_eq (by omega) (by omega)]; simp
    refine jn_of (fun (st : Int × Unit) g' => g' = h45 ∧ st.1 = (L'.length : Nat)) ?_ fun K48 hK48 => ?_
    rotate_left
    · refine cnd_of (fun c5 => hK48 _ _ ⟨rfl, ?_⟩) fun c5 => hK48 _ _ ⟨rfl, ?_⟩
      · simp only [beq_iff_eq] at c5
        rw [if_pos c5] at hL0
        rw [wsucc (by omega), hL0]
      · simp only [beq_eq_false_iff_ne] at c5
        rw [if_neg c5] at hL0
        simp only [hL0]; rfl
    rintro ⟨e, _⟩ _ ⟨rfl, rfl⟩
    refine cnd_of (fun c5 => ?_) fun c5 => ?_
    · simp only [beq_iff_eq] at c5
      refine cnd_f (hwas0 c5) (cnd_f (by rw [c5]; rfl) (tr _ (cnd_f (wt _ rfl) (fin _ rfl))))
    · refine cnd_of (fun c6 => ?_) fun c6 => tr _ (cnd_f (wt _ rfl) (fin _ rfl))
      simp only [beq_iff_eq] at c6
      exact cnd_f (by rw [hwas6 c6]; rfl) (tr _ (cnd_f (wt _ rfl) (fin _ rfl)))
  rintro ⟨⟩ h9 ⟨L, d9, ⟨B, lc, hB⟩⟩
  have iff : ∀ {u v : Nat}, u < n → v < n → (Cn (eL L) u v ↔ gt B u = gt B v) := fun hu hv => dE_Cn.symm.trans (lc.iff hu hv).symm
  have cle := cntB_le n fun k => gt B k == k
  refine jn_of (fun (st : Int × Unit) g => LT g a b n L (fun _ => 0) ∧ st.1 = (cntB n (fun k => gt B k == k) : Nat)) ?_ fun K13 hK13 => ?_
  · rintro ⟨t, _⟩ g ⟨dg, rfl⟩
    refine T_trees dg _ (cnd_t ?_ (works_spec _ _ fun h' _ => hK h'))
    rw [beq_iff_eq]; omega
  refine for_of n (fun v (st : Int × Int × Unit) g => st.2.1 = (v : Int) ∧ st.1 = (cntB v (fun k => gt B k == k) : Nat) ∧ LT g a b n L (fun _ => 0)) ?_ ⟨rfl, rfl, d9⟩
  rintro v Kr ⟨t, st, _⟩ g hv ⟨rfl, rfl, dg⟩ hKr
  refine cnd_of (fun c => ?_) fun c => ?_
  rotate_left
  · simp only [decide_eq_false_iff_not] at c
    obtain rfl : v = n := by omega
    exact hK13 _ _ ⟨dg, rfl⟩
  simp only [decide_eq_true_eq] at c
  have hvn : v < n := by omega
  have cv := cntB_le v fun k => gt B k == k
  refine jn_of (fun (st : Bool × Int × Unit) g' => LT g' a b n L (fun _ => 0) ∧ (st.1 = true ↔ gt B v = v) ∧ st.2.1 = (cntB n (fun z => gt B z == gt B v) : Nat)) ?_ fun K23 hK23 => ?_
  · rintro ⟨fst, sz, _⟩ g' ⟨dg', hf, rfl⟩
    simp only at hf
    refine T_size dg' _ _ fun r24 h25 d25 f25 e25 => ?_
    have e25 : szI (eL L) n (v : Int) r24 := e25
    have : r24 = (cntB n (fun z => gt B z == gt B v) : Nat) := by
      rcases e25 with ⟨q, _⟩ | ⟨v', Ml, hv', _, nd, hMl, rfl⟩
      · exact absurd ⟨by omega, by omega⟩ q
      · obtain rfl : v = v' := by omega
        have : Ml.length = ((List.range n).filter fun z => gt B z == gt B v).length := nodup_eq nd (List.filter_sublist.nodup List.nodup_range) fun z => by
          rw [hMl, List.mem_filter, List.mem_range, beq_iff_eq]
          exact and_congr_right fun hz => (iff hvn hz).trans eq_comm
        rw [this]; rfl
    subst this
    have s1 := cntB_succ v (fun k => gt B k == k)
    refine cnd_f (by simp) (cnd_of (fun q => hKr hvn _ _ ⟨wsucc (by omega), ?_, d25⟩) fun q => hKr hvn _ _ ⟨wsucc (by omega), ?_, d25⟩)
    · have : (gt B v == v) = true := by rw [beq_iff_eq]; exact hf.1 q
      rw [this] at s1
      simp only [wsucc (show cntB v (fun k => gt B k == k) < 2 ^ 40 by omega), s1]; rfl
    · have : (gt B v == v) = false := by
        rw [beq_eq_false_iff_ne]; intro e; rw [hf.2 e] at q; cases q
      rw [this] at s1
      simp only [s1]; rfl
  refine for_of n (fun w (st : Bool × Int × Int × Unit) g' => st.2.2.1 = (w : Int) ∧ st.2.1 = (cntB w (fun z => gt B z == gt B v) : Nat) ∧ (st.1 = true ↔ ∀ z, z < w → gt B z = gt B v → v ≤ z) ∧ LT g' a b n L (fun _ => 0)) ?_ ⟨rfl, rfl, ⟨fun _ z hz => by omega, fun _ => rfl⟩, dg⟩
  rintro w Kx ⟨fst, sz, st, _⟩ g' hw ⟨rfl, rfl, hf, dg'⟩ hKx
  simp only at hf
  refine cnd_of (fun c2 => ?_) fun c2 => ?_
  rotate_left
  · simp only [decide_eq_false_iff_not] at c2
    obtain rfl : w = n := by omega
    refine hK23 _ _ ⟨dg', ?_, rfl⟩
    simp only
    rw [hf]
    constructor
    · intro q
      have h1 := lc.le v hvn
      have := q (gt B v) (by omega) ((lc.con v hvn).inv (gt B) lc.ed).symm
      omega
    · intro q z hz e
      have := lc.le z hz
      omega
  simp only [decide_eq_true_eq] at c2
  have hwn : w < n := by omega
  have s1 := cntB_succ w (fun z => gt B z == gt B v)
  have cw := cntB_le w fun z => gt B z == gt B v
  refine T_conn dg' _ _ _ fun r29 h30 d30 f30 e30 => ?_
  have e30 : r29 = true ↔ cnI (eL L) n (v : Int) (w : Int) := e30
  have e30' : r29 = true ↔ gt B w = gt B v := by
    rw [e30]
    constructor
    · rintro ⟨u', v', h1, h2, _, _, g⟩
      obtain rfl : v = u' := by omega
      obtain rfl : w = v' := by omega
      exact ((iff hvn hwn).1 g).symm
    · intro e
      exact ⟨v, w, rfl, rfl, hvn, hwn, (iff hvn hwn).2 e.symm⟩
  refine cnd_of (fun q => ?_) fun q => hKx hwn _ _ ⟨wsucc (by omega), ?_, ?_, d30⟩
  · have e := e30'.1 q
    have : (gt B w == gt B v) = true := by rw [beq_iff_eq]; exact e
    rw [this] at s1
    have sz1 : w64 (((cntB w fun z => gt B z == gt B v : Nat) : Int) + 1) = ((cntB (w + 1) fun z => gt B z == gt B v : Nat) : Int) := by rw [wsucc (by omega), s1]; rfl
    refine cnd_of (fun q2 => hKx hwn _ _ ⟨wsucc (by omega), sz1, ?_, d30⟩) fun q2 => hKx hwn _ _ ⟨wsucc (by omega), sz1, ?_, d30⟩
    · simp only [decide_eq_true_eq]
      constructor
      · intro g z hz ez
        by_cases ezw : z = w
        · subst ezw; omega
        · exact hf.1 q2 z (by omega) ez
      · intro g; have := g w (by omega) e; omega
    · refine ⟨fun e => (by cases e), fun g => ?_⟩
      rw [← q2]
      exact hf.2 fun z hz => g z (by omega)
  · have : (gt B w == gt B v) = false := by
      rw [beq_eq_false_iff_ne]; intro e; rw [e30'.2 e] at q; cases q
    rw [this] at s1
    simp only [s1]; rfl
  · simp only
    rw [hf]
    constructor
    · intro g z hz ez
      by_cases ezw : z = w
      · subst ezw; rw [e30'.2 ez] at q; cases q
      · exact g z (by omega) ez
    · intro g z hz; exact g z (by omega)

end Go.Hx
