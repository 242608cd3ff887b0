/- The order of the unions, and the counts: the laws, over the abstract heap. No condition. -/
import Derived.Test.YtepochkdpllmkaaHxDsuH
namespace Go.Hx

/-- Labels are told by which elements share a set. -/
theorem lab_ext {L N : List Nat} (hl : L.length = N.length) (dL : LInv L) (dN : LInv N) (h : ∀ i j, i < L.length → j < L.length → (gt L i = gt L j ↔ gt N i = gt N j)) : L = N := by
  apply List.ext_getElem hl
  intro i hi hi'
  have e1 : gt L i = L[i] := by simp [gt, List.getD, List.getElem?_eq_getElem hi]
  have e2 : gt N i = N[i] := by simp [gt, List.getD, List.getElem?_eq_getElem hi']
  rw [← e1, ← e2]
  have a1 := dL.le i hi
  have a2 := dN.le i hi'
  have b1 := (h (gt L i) i (by omega) hi).1 (dL.idem i hi)
  have b2 := (h (gt N i) i (by omega) hi).2 (dN.idem i hi')
  have c1 := dN.le (gt L i) (by omega)
  have c2 := dL.le (gt N i) (by omega)
  omega

/-- The pairs in the other order. -/
theorem order_eq {n m : Nat} {M B : List Int} (h : ∀ k, k < m → B.getD (k * 2 + 0) 0 = M.getD ((m - 1 - k) * 2 + 1) 0 ∧ B.getD (k * 2 + 1) 0 = M.getD ((m - 1 - k) * 2 + 0) 0) : unitedL n M m = unitedL n B m := by
  have ok : ∀ k, k < m → (okP n B k ↔ okP n M (m - 1 - k)) := fun k hk => by
    obtain ⟨h1, h2⟩ := h k hk
    unfold okP; rw [h1, h2]; omega
  have pa : ∀ k, k < m → pA B k = pB M (m - 1 - k) := fun k hk => by simp only [pA, pB]; rw [(h k hk).1]
  have pb : ∀ k, k < m → pB B k = pA M (m - 1 - k) := fun k hk => by simp only [pA, pB]; rw [(h k hk).2]
  refine lab_ext (by rw [unitedL_len, unitedL_len]) (unitedL_inv _ _ _) (unitedL_inv _ _ _) fun i j hi hj => ?_
  rw [unitedL_len] at hi hj
  constructor
  · intro e
    refine ((united_closed (fun k => gt (unitedL n B m) k = gt (unitedL n B m) j) (fun k hk ho => ?_) hi hj e).2 rfl)
    have hk' : m - 1 - k < m := by omega
    have e1 : m - 1 - (m - 1 - k) = k := by omega
    have := united_pair hk' ((ok _ hk').2 (by rw [e1]; exact ho))
    rw [pa _ hk', pb _ hk', e1] at this
    rw [this]
  · intro e
    refine ((united_closed (fun k => gt (unitedL n M m) k = gt (unitedL n M m) j) (fun k hk ho => ?_) hi hj e).2 rfl)
    have hk' : m - 1 - k < m := by omega
    have := united_pair hk' ((ok k hk).1 ho)
    rw [pa _ hk, pb _ hk, this]

theorem groups_fit' (L : List Nat) (hn : L.length ≤ 65536) : (groupsL L L.length).length ≤ 65536 ∧ ∀ j, j < (groupsL L L.length).length → ((groupsL L L.length).getD j []).length ≤ 65536 := by
  have h1 := groupsL_le L L.length
  refine ⟨by omega, fun j hj => ?_⟩
  have : (groupsL L L.length).getD j [] ∈ groupsL L L.length := by simp [List.getD, List.getElem?_eq_getElem hj]
  unfold groupsL at this
  rw [List.mem_map] at this
  obtain ⟨i, -, hi⟩ := this
  unfold groupsL
  rw [← hi]
  have := groupL_le L i L.length
  omega

def backL (M : List Int) (m k : Nat) : List Int := (List.range k).flatMap fun j => [M.getD ((m - 1 - j) * 2 + 1) 0, M.getD ((m - 1 - j) * 2 + 0) 0]

theorem backL_succ (M : List Int) (m k : Nat) : backL M m (k + 1) = backL M m k ++ [M.getD ((m - 1 - k) * 2 + 1) 0, M.getD ((m - 1 - k) * 2 + 0) 0] := flatMap_succ _ _

theorem backL_len (M : List Int) (m k : Nat) : (backL M m k).length = k * 2 := by
  induction k with
  | zero => rfl
  | succ k ih => rw [backL_succ, List.length_append, ih]; simp; omega

theorem backL_get (M : List Int) (m n : Nat) {k : Nat} (hk : k < n) : (backL M m n).getD (k * 2 + 0) 0 = M.getD ((m - 1 - k) * 2 + 1) 0 ∧ (backL M m n).getD (k * 2 + 1) 0 = M.getD ((m - 1 - k) * 2 + 0) 0 := by
  induction n with
  | zero => omega
  | succ n ih =>
    rw [backL_succ]
    have hl := backL_len M m n
    by_cases g : k < n
    · obtain ⟨h1, h2⟩ := ih g
      simp only [List.getD] at h1 h2 ⊢
      rw [List.getElem?_append_left (by omega), List.getElem?_append_left (by omega)]
      exact ⟨h1, h2⟩
    · obtain rfl : k = n := by omega
      simp only [List.getD]
      rw [List.getElem?_append_right (by omega), List.getElem?_append_right (by omega), hl, show k * 2 + 0 - k * 2 = 0 by omega, show k * 2 + 1 - k * 2 = 1 by omega]
      exact ⟨rfl, rfl⟩

theorem g_law08_DsuOrder_true (n : Int) (l : Sl) (h : Hp) (K : Bool → Hp → Prop) (_ : -9223372036854775808 ≤ n ∧ n ≤ 9223372036854775807) {M : List Int} (hM : Rd h 2 l (ints M)) (_ : l.n ≤ 2 ^ 63 - 1)
    (_ : ∀ x ∈ M, -9223372036854775808 ≤ x ∧ x ≤ 9223372036854775807) (hK : ∀ h', K true h') : g_law08_DsuOrder n l h K := by
  unfold g_law08_DsuOrder
  have wk : ∀ h', g_law08_works h' fun r h2 => K r h2 := fun h' => works08_spec _ _ fun h2 _ => hK h2
  refine small_spec _ _ _ _ (fun n0 n1 l1 => cnd_f rfl ?_) (cnd_t rfl (wk _))
  unfold jn
  obtain ⟨m, hm⟩ : ∃ m, m = l.n := ⟨_, rfl⟩
  have ew : w64 ((Int.ofNat l.n) - 1) = (m : Int) - 1 := by rw [w64, w64_eq (by simp only [Int.ofNat_eq_natCast]; omega) (by simp only [Int.ofNat_eq_natCast]; omega), hm]; rfl
  rw [ew]
  refine for_of m (fun k t H => t.2.1 = (m : Int) - 1 - (k : Int) ∧ Fr h.size h H ∧ Lst H 2 t.1 (ints (backL M m k)) h.size) ?_ ⟨by simp, Fr.refl _ _, Lst.nil _ _ _⟩
  rintro k K1 ⟨s, t, u⟩ H hk ⟨rfl, f, ls⟩ hK1
  simp only
  have hsn : s.n = k := by have := ls.1; rw [ints_len, backL_len] at this; simp only at this; omega
  refine cnd_of (fun g => ?_) fun g => ?_
  · simp only [decide_eq_true_eq] at g
    have ei : Int.toNat ((m : Int) - 1 - (k : Int)) = m - 1 - k := by omega
    have rd := hM.fr f
    refine ix_rd rd (by omega) g (by omega) fun x hx hc => ⟨by omega, by omega, ?_⟩
    rw [add_add _ _ _ hx]
    refine ldI_of (hc 1 (by omega)) (ix_rd rd (by omega) g (by omega) fun y hy hc' => ⟨by omega, by omega, ?_⟩)
    rw [add_add _ _ _ hy]
    refine ldI_of (hc' 0 (by omega)) (alo_of fun H1 z1 b1 k1 => ?_)
    rw [ei] at b1
    have f1 : Fr H.size H H1 := ⟨by omega, k1⟩
    have sz := f.size
    refine app_lst (x := ⟨some ⟨H.size, 0, none⟩, 1, 1⟩) (news := ints [M.getD ((m - 1 - k) * 2 + 1) 0, M.getD ((m - 1 - k) * 2 + 0) 0]) (ls.fr f1).eta (by omega) (by rw [seg_row (row_own b1) (by simp)]; rfl) (ints_one _) rfl (by simp only; omega) (by simp only; omega) fun s' H2 l2 _ z2 f2 _ _ => ?_
    refine hK1 (by omega) _ _ ⟨?_, (f.trans (f1.mono sz)).trans f2, ?_⟩
    · show w64 ((m : Int) - 1 - (k : Int) - 1) = (m : Int) - 1 - ((k + 1 : Nat) : Int)
      rw [w64, w64_eq (by omega) (by omega)]; omega
    · rw [backL_succ, ints_app]; exact l2
  · simp only [decide_eq_false_iff_not] at g
    obtain rfl : k = m := by omega
    have he : unitedL n.toNat M k = unitedL n.toNat (backL M k k) k := order_eq fun j hj => backL_get M k k hj
    refine united_spec n l M H _ (hM.fr f) (by omega) (fun bad => by omega) fun _ _ o h9 d9 f9 lo9 => ?_
    refine united_spec n ⟨s.a, s.n, s.c⟩ (backL M k k) h9 _ (ls.rd.fr f9) (by simp only; omega) (fun bad => by omega) fun _ _ p h11 e11 f11 lo11 => cnd_f rfl (cnd_f rfl ?_)
    simp only [hsn] at e11
    rw [← hm] at d9
    rw [← he] at e11
    obtain ⟨L, hL⟩ : ∃ L, L = unitedL n.toNat M k := ⟨_, rfl⟩
    have hlen : L.length = n.toNat := by rw [hL]; exact unitedL_len _ _ _
    rw [← hL] at d9 e11
    have hhi := d9.hi
    have d11 := d9.fr f11
    refine Labels_spec d11 _ fun s12 h13 d13 f13 l13 => ?_
    have e13 := e11.other f13 (.inr (by omega))
    have hhi' := e11.hi
    refine Labels_spec e13 _ fun s14 h15 e15 f15 l15 => ?_
    have d15 := d13.other f15 (.inl (by omega))
    have n12 : s12.n = L.length := by have := l13.1; rw [ints_len, nats_len] at this; omega
    refine same08_spec _ _ _ _ _ _ (l13.frI f15 (by omega)).rd l15.rd (by omega) (cnd_t (by simp) ?_)
    obtain ⟨g1, g2⟩ := groups_fit' L d9.n
    refine Groups_spec d15 _ fun s18 h19 d19 f19 r18 => ?_
    have e19 := e15.other f19 (.inr (by omega))
    refine Groups_spec e19 _ fun s20 h21 e21 f21 r20 => ?_
    refine groups_spec ((r18.frI f21 (by have := e15.hi; omega)).grp) r20.grp g1 g2 _ (cnd_t rfl (wk _))

end Go.Hx
