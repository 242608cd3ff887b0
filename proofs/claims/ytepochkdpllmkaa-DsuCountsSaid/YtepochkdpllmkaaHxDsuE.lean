/- The law of the labels, over the abstract heap. No condition. -/
import Derived.Test.YtepochkdpllmkaaHxDsuC
namespace Go.Hx

theorem small_spec (n : Int) (l : Sl) (h : Hp) (K : Bool → Hp → Prop) (hy : 0 ≤ n → n ≤ 300 → l.n ≤ 300 → K true h) (hn : K false h) : g_law08_small n l h K := by
  unfold g_law08_small
  refine cnd_of (fun a => cnd_of (fun b => ?_) fun _ => hn) fun _ => hn
  simp only [decide_eq_true_eq] at a b
  by_cases c : Int.ofNat l.n ≤ 300
  · rw [decide_eq_true c]; exact hy a b (by simp only [Int.ofNat_eq_natCast] at c; omega)
  · rw [decide_eq_false c]; exact hn

theorem same08_spec (a b : Sl) (M N : List Int) (H : Hp) (K : Bool → Hp → Prop) (hM : Rd H 1 a (ints M)) (hN : Rd H 1 b (ints N)) (hl : a.n < 2 ^ 62)
    (hK : K (decide (M = N)) H) : g_law08_same a b H K := by
  have hm : M.length = a.n := by have := hM.ilen; omega
  have hn : N.length = b.n := by have := hN.ilen; omega
  have no : M ≠ N → K false H := fun h => by rwa [decide_eq_false h] at hK
  unfold g_law08_same
  refine cnd_of (fun c => ?_) fun c => ?_
  · simp at c
    exact no fun h => by rw [h] at hm; omega
  · simp at c
    refine for_of a.n (fun i t Hc => t.1 = (i : Int) ∧ Hc = H ∧ M.take i = N.take i) ?_ ⟨rfl, rfl, by simp⟩
    rintro i K2 ⟨i', u⟩ Hc hi ⟨rfl, rfl, ht⟩ hK2
    simp only
    refine cnd_of (fun f => ?_) fun f => ?_
    · simp only [decide_eq_true_eq, Int.ofNat_eq_natCast] at f
      refine ix_ld1 hM (by omega) (by omega) rfl (ix_ld1 hN (by omega) (by omega) rfl ?_)
      rw [show Int.toNat (i : Int) = i from rfl]
      refine cnd_of (fun e => no fun h => by subst h; simp at e) fun e => ?_
      simp only [bne_eq_false_iff_eq] at e
      refine hK2 (by omega) _ _ ⟨?_, rfl, take_step' (by omega) (by omega) ht e⟩
      show w64 ((i : Int) + 1) = ((i + 1 : Nat) : Int)
      rw [w64, w64_eq (by omega) (by omega)]; omega
    · simp only [decide_eq_false_iff_not, Int.ofNat_eq_natCast] at f
      have : i = a.n := by omega
      subst this
      rw [← hm, List.take_length, hm, show a.n = b.n by omega, ← hn, List.take_length] at ht
      rwa [decide_eq_true ht] at hK
where
  take_step' {M N : List Int} {k : Nat} (hm : k < M.length) (hn : k < N.length) (ht : M.take k = N.take k) (he : M.getD k 0 = N.getD k 0) : M.take (k + 1) = N.take (k + 1) := by
    rw [List.take_add_one, List.take_add_one, ht]
    simp only [List.getD, List.getElem?_eq_getElem hm, List.getElem?_eq_getElem hn, Option.getD_some] at he
    rw [List.getElem?_eq_getElem hm, List.getElem?_eq_getElem hn, he]

theorem Lst.frI {h h' : Hp} {z : Nat} {s : Sl} {cs : List Value} {B lo hi : Nat} (hl : Lst h z s cs B) (f : FrI lo hi h h') (hB : hi ≤ B) : Lst h' z s cs B :=
  hl.keep f.size fun _ ha => f.blk _ (hl.blk_lt ha).2.1 (.inr (by have := (hl.blk_lt ha).1; omega))

theorem Rd.cell1 {h : Hp} {s : Sl} {M : List Int} {x : Addr} {k : Nat} (r : Rd h 1 s (ints M)) (hx : s.a = some x) (hk : k < s.n) : h.cell (x.add k) = some (.int .i64 (M.getD k 0)) := by
  have := r.1
  rw [hx] at this
  rw [seg_cell this (by omega), ints_getD (by rw [r.ilen]; omega)]

theorem g_law08_DsuLabels_true (n : Int) (l : Sl) (h : Hp) (K : Bool → Hp → Prop) (_ : -9223372036854775808 ≤ n ∧ n ≤ 9223372036854775807) {M : List Int} (hM : Rd h 2 l (ints M)) (_ : l.n ≤ 2 ^ 63 - 1)
    (_ : ∀ x ∈ M, -9223372036854775808 ≤ x ∧ x ≤ 9223372036854775807) (hK : ∀ h', K true h') : g_law08_DsuLabels n l h K := by
  unfold g_law08_DsuLabels
  have wk : ∀ h', g_law08_works h' fun r h2 => K r h2 := fun h' => works08_spec _ _ fun h2 _ => hK h2
  refine small_spec _ _ _ _ (fun n0 n1 l1 => cnd_f rfl ?_) (cnd_t rfl (wk _))
  refine united_spec n l M h _ hM (by omega) (fun bad => by omega) fun _ _ o h6 d6 f6 lo6 => cnd_f rfl ?_
  obtain ⟨N, rfl⟩ : ∃ N : Nat, n = N := ⟨n.toNat, by omega⟩
  rw [show Int.toNat (N : Int) = N from rfl] at d6
  obtain ⟨L, hL⟩ : ∃ L, L = unitedL N M l.n := ⟨_, rfl⟩
  have hlen : L.length = N := by rw [hL]; exact unitedL_len _ _ _
  rw [← hL] at d6
  have hinv := d6.lab
  refine Labels_spec d6 _ fun s h8 d8 f8 l8 => ?_
  have hhi := d6.hi
  have hsn : s.n = N := by have := l8.1; rw [ints_len, nats_len, hlen] at this; omega
  refine cnd_f (by simp [hsn]) ?_
  refine for_of N (fun i t H => t.1 = (i : Int) ∧ DS H o L ∧ Lst H 1 s (ints (nats L)) h6.size) ?_ ⟨rfl, d8, l8⟩
  rintro i K1 ⟨t, u⟩ H hi ⟨rfl, d, ls⟩ hK1
  simp only
  refine cnd_of (fun c => ?_) fun c => wk _
  simp only [decide_eq_true_eq] at c
  have ei : Int.toNat (i : Int) = i := rfl
  refine Least_spec d _ _ fun h1 d1 f1 z1 => ?_
  rw [leastV, if_pos (by omega), ei]
  have ls1 := ls.frI f1 hhi
  have hle := hinv.le i (by omega)
  refine cnd_f rfl (ix_ld1 ls1.rd (by omega) (by omega) rfl ?_)
  rw [ei, nats_getD]
  refine cnd_f (by simp) (cnd_f (by simp) (cnd_f (by simp only [decide_eq_false_iff_not]; omega) (ix_ld1 ls1.rd (by omega) (by omega) rfl ?_)))
  rw [show Int.toNat ((gt L i : Nat) : Int) = gt L i from rfl, nats_getD]
  have hid := hinv.idem i (by omega)
  refine cnd_f (by rw [show L.getD (gt L i) 0 = gt L i from hid]; simp) (Same_spec d1 _ _ _ fun h2 d2 f2 z2 => cnd_f ?_ ?_)
  · have : sameV L i ((gt L i : Nat) : Int) = true := by
      rw [sameV, decide_eq_true_eq]
      exact ⟨by omega, by omega, by omega, by omega, hid.symm⟩
    rw [this]; rfl
  have ls2 := ls1.frI f2 hhi
  refine for_of 50 (fun j t H => t.1 = 7 * (j : Int) ∧ DS H o L ∧ Lst H 1 s (ints (nats L)) h6.size) ?_ ⟨rfl, d2, ls2⟩
  rintro j K2 ⟨t, u⟩ H3 hj ⟨rfl, d3, ls3⟩ hK2
  simp only
  refine cnd_of (fun c' => ?_) fun c' => ?_
  · simp only [decide_eq_true_eq] at c'
    have ej : Int.toNat (7 * (j : Int)) = 7 * j := by omega
    obtain ⟨x, hx, hs⟩ := seg_some ls3.seg (by omega)
    refine ⟨x, hx, by omega, by omega, ldI_of (ls3.rd.cell1 hx (by omega)) ⟨x, hx, by omega, by omega, ldI_of (ls3.rd.cell1 hx (by omega)) (Same_spec d3 _ _ _ fun h4 d4 f4 z4 => ?_)⟩⟩
    have ls4 := ls3.frI f4 hhi
    rw [add_add _ _ _ hs, add_add _ _ _ hs]
    refine ⟨ls4.rd.cell1 hx (by omega), ls4.rd.cell1 hx (by omega), cnd_f ?_ (hK2 (by omega) _ _ ⟨?_, d4, ls4⟩)⟩
    · rw [ej, Nat.mul_one, Nat.mul_one, nats_getD, nats_getD]
      have : sameV L i (7 * (j : Int)) = ((((L.getD i 0 : Nat)) : Int) == ((L.getD (7 * j) 0 : Nat) : Int)) := by
        rw [sameV, Bool.eq_iff_iff, decide_eq_true_eq, beq_iff_eq, ei, ej]
        constructor
        · exact fun k => congrArg Int.ofNat k.2.2.2.2
        · exact fun k => ⟨by omega, by omega, by omega, by omega, Int.ofNat.inj k⟩
      rw [this]; simp
    · show w64 (7 * (j : Int) + 7) = 7 * ((j + 1 : Nat) : Int)
      rw [w64, w64_eq (by omega) (by omega)]; omega
  · refine hK1 (by omega) _ _ ⟨?_, d3, ls3⟩
    show w64 ((i : Int) + 1) = ((i + 1 : Nat) : Int)
    rw [w64, w64_eq (by omega) (by omega)]; omega

end Go.Hx
