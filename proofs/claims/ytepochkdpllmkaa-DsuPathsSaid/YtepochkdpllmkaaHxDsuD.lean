/- The law of the paths, over the abstract heap. No condition. -/
import Derived.Test.YtepochkdpllmkaaHxDsuC
namespace Go.Hx

def closedS (n : Nat) (M : List Int) (m : Nat) (s : Nat → Bool) : Prop := ∀ k, k < m → okP n M k → s (pA M k) = s (pB M k)

/-- Within a round, behind k pairs. -/
structure Rnd (n : Nat) (M : List Int) (m : Nat) (L : List Nat) (fr : Nat) (s s' : Nat → Bool) (k : Nat) : Prop where
  up : ∀ i, i < n → s i = true → s' i = true
  cl : ∀ i, i < n → s' i = true → gt L i = gt L fr
  ch : ((∀ i, i < n → s' i = s i) ∧ ∀ j, j < k → okP n M j → s (pA M j) = s (pB M j)) ∨ ∃ i, i < n ∧ s i = false ∧ s' i = true
  st : closedS n M m s → ∀ i, i < n → s' i = s i

theorem Rnd.skip {n : Nat} {M : List Int} {m : Nat} {L : List Nat} {fr : Nat} {s s' : Nat → Bool} {k : Nat} (r : Rnd n M m L fr s s' k) (h : okP n M k → s' (pA M k) = s' (pB M k)) : Rnd n M m L fr s s' (k + 1) := by
  refine ⟨r.up, r.cl, ?_, r.st⟩
  rcases r.ch with ⟨h1, h2⟩ | h1
  · refine .inl ⟨h1, fun j hj ho => ?_⟩
    by_cases e : j = k
    · subst e
      have := h ho
      rw [h1 _ (by have := ho; unfold okP at this; simp only [pA]; omega), h1 _ (by have := ho; unfold okP at this; simp only [pB]; omega)] at this
      exact this
    · exact h2 j (by omega) ho
  · exact .inr h1

theorem Rnd.mark {n : Nat} {M : List Int} {m : Nat} {fr : Nat} {s s' t : Nat → Bool} {k : Nat} (r : Rnd n M m (unitedL n M m) fr s s' k) (hk : k < m) (ho : okP n M k)
    (h : s' (pA M k) = true ∨ s' (pB M k) = true) (ht : ∀ i, i < n → t i = if i = pA M k ∨ i = pB M k then true else s' i) : Rnd n M m (unitedL n M m) fr s t (k + 1) := by
  have ha : pA M k < n := by have := ho; unfold okP at this; simp only [pA]; omega
  have hb : pB M k < n := by have := ho; unfold okP at this; simp only [pB]; omega
  have e := united_pair hk ho
  have la : gt (unitedL n M m) (pA M k) = gt (unitedL n M m) fr := by
    rcases h with h | h
    · exact r.cl _ ha h
    · rw [e]; exact r.cl _ hb h
  refine ⟨fun i hi hs => ?_, fun i hi hs => ?_, ?_, fun hc i hi => ?_⟩
  · rw [ht i hi]; split
    · rfl
    · exact r.up i hi hs
  · rw [ht i hi] at hs
    split at hs
    · rename_i g
      rcases g with g | g
      · rw [g]; exact la
      · rw [g, ← e]; exact la
    · exact r.cl i hi hs
  · rcases r.ch with ⟨h1, h2⟩ | ⟨i, hi, h1, h2⟩
    · rw [h1 _ ha, h1 _ hb] at h
      by_cases ea : s (pA M k) = true
      · by_cases eb : s (pB M k) = true
        · refine .inl ⟨fun i hi => ?_, fun j hj hoj => ?_⟩
          · rw [ht i hi]; split
            · rename_i g
              rcases g with g | g
              · rw [g, ea]
              · rw [g, eb]
            · exact h1 i hi
          · by_cases ej : j = k
            · subst ej; rw [ea, eb]
            · exact h2 j (by omega) hoj
        · exact .inr ⟨pB M k, hb, by simpa using eb, by rw [ht _ hb, if_pos (.inr rfl)]⟩
      · exact .inr ⟨pA M k, ha, by simpa using ea, by rw [ht _ ha, if_pos (.inl rfl)]⟩
    · refine .inr ⟨i, hi, h1, ?_⟩
      rw [ht i hi]; split
      · rfl
      · exact h2
  · have e1 := r.st hc
    have e2 := hc k hk ho
    rw [e1 _ ha, e1 _ hb] at h
    rw [ht i hi]; split
    · rename_i g
      have : s (pA M k) = true ∧ s (pB M k) = true := by
        rcases h with h | h
        · exact ⟨h, by rw [← e2]; exact h⟩
        · exact ⟨by rw [e2]; exact h, h⟩
      rcases g with g | g
      · rw [g]; exact this.1.symm
      · rw [g]; exact this.2.symm
    · exact e1 i hi

theorem g_law08_DsuPaths_true (n : Int) (l : Sl) (fr : Int) (h : Hp) (K : Bool → Hp → Prop) (_ : -9223372036854775808 ≤ n ∧ n ≤ 9223372036854775807) {M : List Int} (hM : Rd h 2 l (ints M)) (_ : l.n ≤ 2 ^ 63 - 1)
    (_ : ∀ x ∈ M, -9223372036854775808 ≤ x ∧ x ≤ 9223372036854775807) (_ : -9223372036854775808 ≤ fr ∧ fr ≤ 9223372036854775807) (hK : ∀ h', K true h') : g_law08_DsuPaths n l fr h K := by
  unfold g_law08_DsuPaths
  have wk : ∀ h', g_law08_works h' fun r h2 => K r h2 := fun h' => works08_spec _ _ fun h2 _ => hK h2
  refine cnd_of (fun _ => wk _) fun c1 => cnd_of (fun _ => wk _) fun c2 => cnd_of (fun _ => wk _) fun c3 => cnd_of (fun _ => wk _) fun c4 => cnd_of (fun _ => wk _) fun c5 => ?_
  simp only [decide_eq_false_iff_not, Int.ofNat_eq_natCast] at c1 c2 c3 c4 c5
  refine united_spec n l M h _ hM (by omega) (fun bad => by omega) fun _ _ o h12 d12 f12 lo12 => cnd_f rfl ?_
  obtain ⟨N, rfl⟩ : ∃ N : Nat, n = N := ⟨n.toNat, by omega⟩
  obtain ⟨F, rfl⟩ : ∃ F : Nat, fr = F := ⟨fr.toNat, by omega⟩
  rw [show Int.toNat (N : Int) = N from rfl] at d12
  obtain ⟨m, hm⟩ : ∃ m, m = l.n := ⟨_, rfl⟩
  rw [← hm] at d12
  obtain ⟨L, hL⟩ : ∃ L, L = unitedL N M m := ⟨_, rfl⟩
  have hlen : L.length = N := by rw [hL]; exact unitedL_len _ _ _
  rw [← hL] at d12
  refine mks_of (by omega) (by omega) (by omega) fun h14 z14 b14 k14 => ?_
  rw [show Int.toNat (N : Int) = N from rfl, zrow_bls] at b14
  have f14 : Fr h12.size h12 h14 := ⟨by omega, k14⟩
  refine ix_stB1 b14 (by simp) (by omega) (by simp only [Int.toNat_natCast]; omega) fun h16 z16 b16 k16 => ?_
  have hhi := d12.hi
  have f16 : Fr h12.size h12 h16 := ⟨by omega, fun c hc => by rw [k16 c (by omega), k14 c hc]⟩
  rw [show Int.toNat (F : Int) = F from rfl] at b16
  obtain ⟨b, hb⟩ : ∃ b, b = h12.size := ⟨_, rfl⟩
  rw [← hb] at b16 ⊢
  have hlsz := f12.size
  have r12 := hM.fr f12
  -- rounds
  refine for_of N (fun r t H => t.1 = (r : Int) ∧ DS H o L ∧ Fr b h12 H ∧ b < H.size ∧ ∃ sv : List Bool, sv.length = N ∧ H.blk b = some (.cells (bls sv)) ∧ sv.getD F false = true ∧
    (∀ i, i < N → sv.getD i false = true → gt L i = gt L F) ∧ (closedS N M m (fun i => sv.getD i false) ∨ r + 1 ≤ cntB N fun i => sv.getD i false)) ?_
    ⟨rfl, d12.fr f16, by rw [hb]; exact f16, by omega, (List.replicate N false).set F true, by simp, b16, by rw [getD_setB, if_pos ⟨rfl, by simp; omega⟩], fun i hi hs => ?_, .inr ?_⟩
  rotate_left
  · rw [getD_setB] at hs
    split at hs
    · rename_i g; rw [g.1]
    · simp [List.getD, List.getElem?_replicate, hi] at hs
  · have : cntB N (fun _ => false) < cntB N fun i => ((List.replicate N false).set F true).getD i false :=
      cntB_lt (k := F) (by omega) rfl (by rw [getD_setB, if_pos ⟨rfl, by simp; omega⟩]) (fun _ _ h => by cases h)
    omega
  rintro r K1 ⟨t, u⟩ H hr ⟨rfl, d, f, hbs, sv, svl, svb, svf, svc, svr⟩ hK1
  simp only
  refine cnd_of (fun c => ?_) fun c => ?_
  · simp only [decide_eq_true_eq] at c
    refine for_of m (fun k t H => t.1 = (k : Int) ∧ DS H o L ∧ Fr b h12 H ∧ b < H.size ∧ ∃ sv' : List Bool, sv'.length = N ∧ H.blk b = some (.cells (bls sv')) ∧
      Rnd N M m L F (fun i => sv.getD i false) (fun i => sv'.getD i false) k) ?_
      ⟨rfl, d, f, hbs, sv, svl, svb, ⟨fun _ _ h => h, svc, .inl ⟨fun _ _ => rfl, fun j hj => by omega⟩, fun _ _ _ => rfl⟩⟩
    rintro k K2 ⟨t, u⟩ H2 hk ⟨rfl, d2, f2, hbs2, sv2, svl2, svb2, rn⟩ hK2
    simp only
    refine cnd_of (fun c' => ?_) fun c' => ?_
    · simp only [decide_eq_true_eq, Int.ofNat_eq_natCast] at c'
      have rd := r12.fr (h' := H2) (by rw [← hb]; exact f2)
      refine ix_rd rd (by omega) (by omega) (by omega) fun x hx hc => ⟨by omega, by omega, ?_⟩
      rw [add_add _ _ _ hx]
      refine ldI_of (hc 0 (by omega)) (ix_rd rd (by omega) (by omega) (by omega) fun y hy hc' => ⟨by omega, by omega, ?_⟩)
      rw [add_add _ _ _ hy]
      refine ldI_of (hc' 1 (by omega)) ?_
      rw [show Int.toNat (k : Int) = k from rfl]
      have ek : w64 ((k : Int) + 1) = ((k + 1 : Nat) : Int) := by rw [w64, w64_eq (by omega) (by omega)]; omega
      have skip : (okP N M k → sv2.getD (pA M k) false = sv2.getD (pB M k) false) → K2 (w64 ((k : Int) + 1), ()) H2 := fun hs =>
        hK2 (by omega) _ _ ⟨ek, d2, f2, hbs2, sv2, svl2, svb2, rn.skip hs⟩
      refine cnd_of (fun q => skip fun ho => ?_) fun q1 => cnd_of (fun q => skip fun ho => ?_) fun q2 => cnd_of (fun q => skip fun ho => ?_) fun q3 => cnd_of (fun q => skip fun ho => ?_) fun q4 => ?_
      · simp only [decide_eq_true_eq] at q; unfold okP at ho; omega
      · simp only [decide_eq_true_eq] at q; unfold okP at ho; omega
      · simp only [decide_eq_true_eq] at q; unfold okP at ho; omega
      · simp only [decide_eq_true_eq] at q; unfold okP at ho; omega
      simp only [decide_eq_false_iff_not] at q1 q2 q3 q4
      have ho : okP N M k := ⟨by omega, by omega, by omega, by omega⟩
      have mark : (sv2.getD (pA M k) false = true ∨ sv2.getD (pB M k) false = true) → (ix (some ⟨b, 0, none⟩) N (M.getD (k * 2 + 0) 0) fun a48 =>
                                  stc H2 ((a48.add (Int.toNat (M.getD (k * 2 + 0) 0) * 1)).add 0) (.bool true) fun h49 =>
                                  ix (some ⟨b, 0, none⟩) N (M.getD (k * 2 + 1) 0) fun a50 =>
                                  stc h49 ((a50.add (Int.toNat (M.getD (k * 2 + 1) 0) * 1)).add 0) (.bool true) fun h51 =>
                                  K2 ((w64 ((k : Int) + 1)), ()) h51) := by
        intro hor
        refine ix_stB1 svb2 svl2 (by omega) (by omega) fun h3 z3 b3 k3 => ix_stB1 b3 (by simp [svl2]) (by omega) (by omega) fun h4 z4 b4 k4 => ?_
        have f4 : Fr b H2 h4 := ⟨by omega, fun c hc => by rw [k4 c (by omega), k3 c (by omega)]⟩
        refine hK2 (by omega) _ _ ⟨ek, ?_, f2.trans f4, by omega, _, by simp [svl2], b4, ?_⟩
        · exact d2.other (lo := b) (hi := b + 1) ⟨by omega, fun c hc hcb => by rw [k4 c (by omega), k3 c (by omega)]⟩ (.inl (by omega))
        · rw [hL] at rn ⊢
          refine rn.mark (by omega) ho hor fun i hi => ?_
          simp only [getD_setB, List.length_set, svl2]
          by_cases g1 : i = pA M k
          · rw [if_pos (Or.inl g1)]
            split
            · rfl
            · rw [if_pos ⟨g1.symm, hi⟩]
          · by_cases g2 : i = pB M k
            · rw [if_pos (Or.inr g2), if_pos ⟨g2.symm, hi⟩]
            · rw [if_neg (fun g => g2 g.1.symm), if_neg (fun g => g1 g.1.symm), if_neg (by omega)]
      refine ix_ldB1 svb2 svl2 (by omega) (by simp only [Int.toNat_natCast]; omega) (cnd_of (fun q => mark (.inl q)) fun qa => ?_)
      refine ix_ldB1 svb2 svl2 (by omega) (by simp only [Int.toNat_natCast]; omega) (cnd_of (fun q => mark (.inr q)) fun qb => ?_)
      exact skip fun _ => qa.trans qb.symm
    · simp only [decide_eq_false_iff_not, Int.ofNat_eq_natCast] at c'
      obtain rfl : k = m := by omega
      refine hK1 (by omega) _ _ ⟨?_, d2, f2, hbs2, sv2, svl2, svb2, rn.up _ (by omega) svf, rn.cl, ?_⟩
      · show w64 ((r : Int) + 1) = ((r + 1 : Nat) : Int)
        rw [w64, w64_eq (by omega) (by omega)]; omega
      · rcases rn.ch with ⟨e1, e2⟩ | ⟨i, hi, e1, e2⟩
        · refine .inl fun j hj hoj => ?_
          have ha : pA M j < N := by have := hoj; unfold okP at this; simp only [pA]; omega
          have hb' : pB M j < N := by have := hoj; unfold okP at this; simp only [pB]; omega
          simp only
          rw [e1 _ ha, e1 _ hb']; exact e2 j hj hoj
        · refine .inr ?_
          have hlt := cntB_lt hi e1 e2 rn.up
          rcases svr with hc | hc
          · have : sv2.getD i false = sv.getD i false := rn.st hc i hi
            rw [show sv2.getD i false = true from e2, show sv.getD i false = false from e1] at this; cases this
          · omega
  · -- the end of the rounds
    simp only [decide_eq_false_iff_not] at c
    obtain rfl : r = N := by omega
    have hclosed : closedS r M m fun i => sv.getD i false := by
      rcases svr with hc | hc
      · exact hc
      · have := cntB_le r fun i => sv.getD i false
        omega
    have key : ∀ i, i < r → (sv.getD i false = true ↔ gt L F = gt L i) := fun i hi => by
      constructor
      · exact fun hs => (svc i hi hs).symm
      · intro he
        rw [hL] at he
        exact (united_closed (fun i => sv.getD i false = true) (fun k hk hok => by have := hclosed k hk hok; simp only at this; rw [this]) (by omega) hi he).1 svf
    refine for_of r (fun i t H => t.2.1 = (i : Int) ∧ t.1 = ((cntB i fun k => sv.getD k false : Nat) : Int) ∧ DS H o L ∧ b < H.size ∧ H.blk b = some (.cells (bls sv))) ?_ ⟨rfl, rfl, d, hbs, svb⟩
    rintro i K2 ⟨t1, t2, u⟩ H2 hi ⟨rfl, rfl, d2, hbs2, svb2⟩ hK2
    simp only
    have hle := cntB_le i fun k => sv.getD k false
    refine cnd_of (fun c' => ?_) fun c' => ?_
    · simp only [decide_eq_true_eq] at c'
      have ei : w64 ((i : Int) + 1) = ((i + 1 : Nat) : Int) := by rw [w64, w64_eq (by omega) (by omega)]; omega
      refine ix_of (by omega) (by simp only [Int.toNat_natCast]; omega) ?_
      simp only [add_mk]
      have hcell : ∀ H' : Hp, H'.blk b = some (.cells (bls sv)) → H'.cell ⟨b, 0 + Int.toNat (i : Int) * 1, none⟩ = some (.bool (sv.getD i false)) := fun H' hb' => by
        rw [cell_own hb', Nat.zero_add, Nat.mul_one, show Int.toNat (i : Int) = i from rfl, bls_get (by omega)]
      refine ldB_of (hcell _ svb2) (Same_spec d2 _ _ _ fun h3 d3 f3 z3 => ?_)
      have b3 : h3.blk b = some (.cells (bls sv)) := by rw [f3.blk b hbs2 (.inr (by omega))]; exact svb2
      refine ⟨hcell _ b3, cnd_f ?_ (ix_ldB1 b3 svl (by omega) (by simp only [Int.toNat_natCast]; omega) ?_)⟩
      · have : sameV L F i = sv.getD i false := by
          rw [sameV, Bool.eq_iff_iff, decide_eq_true_eq, key i (by omega)]
          constructor
          · exact fun k => k.2.2.2.2
          · exact fun k => ⟨by omega, by omega, by omega, by omega, k⟩
        rw [this]; simp
      · rw [show Int.toNat (i : Int) = i from rfl]
        refine cnd_of (fun q => ?_) fun q => ?_
        · refine hK2 (by omega) _ _ ⟨ei, ?_, d3, by omega, b3⟩
          show w64 _ = _
          rw [cntB_succ, if_pos q, w64, w64_eq (by omega) (by omega)]; rfl
        · refine hK2 (by omega) _ _ ⟨ei, ?_, d3, by omega, b3⟩
          show _ = _
          rw [cntB_succ, if_neg (by rw [q]; simp)]; rfl
    · simp only [decide_eq_false_iff_not] at c'
      obtain rfl : i = r := by omega
      refine Size_spec d2 _ _ fun h3 d3 f3 z3 => cnd_t ?_ (wk _)
      rw [sizeV, if_pos (by omega), hlen]
      simp only [beq_iff_eq]
      congr 1
      refine cntB_congr fun k hk => ?_
      rw [Bool.eq_iff_iff, beq_iff_eq, show Int.toNat (F : Int) = F from rfl, key k hk]
      exact eq_comm

end Go.Hx
