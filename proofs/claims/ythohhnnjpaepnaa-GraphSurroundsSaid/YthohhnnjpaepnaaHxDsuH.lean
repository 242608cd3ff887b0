/- The groups, over the abstract heap. No condition. -/
import Derived.Test.YthohhnnjpaepnaaHxDsuSz
import Derived.Test.YthohhnnjpaepnaaHxPos
import Derived.Test.YthohhnnjpaepnaaHxClone
namespace Go.Hx
set_option linter.unusedSimpArgs false
set_option linter.unusedVariables false

theorem Lst.frI {h h' : Hp} {z : Nat} {s : Sl} {cs : List Value} {B lo hi : Nat} (hl : Lst h z s cs B) (f : FrI lo hi h h') (hB : hi ≤ B) : Lst h' z s cs B :=
  hl.keep f.size fun _ ha => f.blk _ (hl.blk_lt ha).2.1 (.inr (by have := (hl.blk_lt ha).1; omega))

def groupL (L : List Nat) (i n : Nat) : List Nat := (List.range n).filter fun k => gt L k == i
def groupsL (L : List Nat) (n : Nat) : List (List Nat) := ((List.range n).filter fun i => gt L i == i).map fun i => groupL L i L.length

theorem groupL_succ (L : List Nat) (i n : Nat) : groupL L i (n + 1) = groupL L i n ++ if gt L n = i then [n] else [] := by
  unfold groupL
  rw [List.range_succ, List.filter_append]
  congr 1
  by_cases h : gt L n = i
  · rw [if_pos h, List.filter_cons_of_pos (by rw [beq_iff_eq]; exact h)]; rfl
  · rw [if_neg h, List.filter_cons_of_neg (by rw [beq_iff_eq]; exact h)]; rfl

theorem groupsL_succ (L : List Nat) (n : Nat) : groupsL L (n + 1) = groupsL L n ++ if gt L n = n then [groupL L n L.length] else [] := by
  unfold groupsL
  rw [List.range_succ, List.filter_append, List.map_append]
  congr 1
  by_cases h : gt L n = n
  · rw [if_pos h, List.filter_cons_of_pos (by rw [beq_iff_eq]; exact h)]; rfl
  · rw [if_neg h, List.filter_cons_of_neg (by rw [beq_iff_eq]; exact h)]; rfl

theorem groupL_le (L : List Nat) (i n : Nat) : (groupL L i n).length ≤ n := by
  have := List.length_filter_le (fun k => gt L k == i) (List.range n)
  simpa [groupL] using this

theorem groupsL_le (L : List Nat) (n : Nat) : (groupsL L n).length ≤ n := by
  have := List.length_filter_le (fun k => gt L k == k) (List.range n)
  simpa [groupsL] using this

theorem groupL_low {L : List Nat} (d : LInv L) {i : Nat} (hi : i < L.length) : groupL L i i = [] := by
  unfold groupL
  rw [List.filter_eq_nil_iff]
  intro k hk
  have hk := List.mem_range.1 hk
  have := d.le k (by omega)
  simp only [beq_iff_eq]; omega

/-- A store into a list. -/
theorem ix_stv {h : Hp} {s : Sl} {cs : List Value} {B : Nat} {i : Int} {v : Value} {K : Hp → Prop} (hl : Lst h 1 s cs B) (h0 : 0 ≤ i) (h1 : i < s.n)
    (H : ∀ h' : Hp, h'.size = h.size → Lst h' 1 s (cs.set i.toNat v) B → (∀ c, (∀ x, s.a = some x → c ≠ x.block) → h'.blk c = h.blk c) → K h') :
    ix s.a s.n i fun a => stc h ((a.add (Int.toNat i * 1)).add 0) v K := by
  have hlen : cs.length = s.n := by have := hl.1; omega
  obtain ⟨h1', h2, ⟨rfl, h3⟩ | ⟨b, sp, ha, hB, hb', hc, hs⟩⟩ := id hl
  · simp only at h1; omega
  · refine ⟨_, ha, h0, h1, ?_⟩
    simp only [add_mk]
    refine stc_of hc (by simp; omega) fun h' hz hb hk => H h' hz ?_ fun c hc' => hk c (hc' _ ha)
    refine ⟨by simpa using h1', h2, .inr ⟨b, sp, ha, hB, by omega, ?_, by simpa using hs⟩⟩
    rw [hb, Nat.zero_add, Nat.mul_one, Nat.add_zero, List.set_append, if_pos (by omega)]

theorem DS.keep {h h' : Hp} {o : DO} {L : List Nat} (d : DS h o L) (hz : h.size ≤ h'.size) (hb : ∀ c, c < o.hi → h'.blk c = h.blk c) : DS h' o L := by
  obtain ⟨par, siz, lea, cnt, d⟩ := d
  exact ⟨par, siz, lea, cnt, d.keep hz fun c _ hc => hb c hc⟩

theorem DS.count {h : Hp} {o : DO} {L : List Nat} (d : DS h o L) : h.cell ⟨o.a, 4, none⟩ = some (.int .i64 (countV L : Nat)) := by
  obtain ⟨par, siz, lea, cnt, d⟩ := d
  obtain ⟨rk, i⟩ := d.inv
  rw [d.c4, i.cnt]; rfl

theorem szp_zero {L : List Nat} (d : LInv L) {i : Nat} (h : gt L i ≠ i) : szp L i = 0 := by
  unfold szp
  rw [cntB_congr (q := fun _ => false) fun k hk => ?_]
  · have : ∀ n, (cntB n fun _ => false) = 0 := fun n => by
      induction n with
      | zero => rfl
      | succ n ih => rw [cntB_succ, ih]; simp
    exact this _
  · simp only [beq_eq_false_iff_ne]
    intro e
    have := d.idem k hk
    rw [e] at this; exact h this

theorem filt_get (p : Nat → Bool) : ∀ (n j : Nat), j < cntB n p → ∃ k, k < n ∧ p k = true ∧ cntB k p = j ∧ ((List.range n).filter p)[j]? = some k := by
  intro n
  induction n with
  | zero => intro j hj; simp [cntB] at hj
  | succ n ih =>
    intro j hj
    rw [cntB_succ] at hj
    by_cases h : j < cntB n p
    · obtain ⟨k, h1, h2, h3, h4⟩ := ih j h
      exact ⟨k, by omega, h2, h3, by rw [List.range_succ, List.filter_append, List.getElem?_append_left (by unfold cntB at h; exact h)]; exact h4⟩
    · by_cases hp : p n = true
      · rw [if_pos hp] at hj
        have hj' : j = cntB n p := by omega
        refine ⟨n, by omega, hp, hj'.symm, ?_⟩
        rw [List.range_succ, List.filter_append, List.getElem?_append_right (by unfold cntB at h; omega)]
        rw [hj']; unfold cntB
        rw [Nat.sub_self, List.filter_cons_of_pos hp]; rfl
      · rw [if_neg hp] at hj; omega

/-- The places of a group hold its members. -/
theorem group_at {L al : List Nat} (hl : al.length = L.length) (ha : ∀ k, k < L.length → gt al (pos L k) = k) {r : Nat} : (al.drop (atp L r)).take (szp L r) = groupL L r L.length := by
  have hb := atp_le L (r + 1)
  rw [atp_succ] at hb
  apply List.ext_getElem?
  intro j
  by_cases hj : j < szp L r
  · obtain ⟨k, h1, h2, h3, h4⟩ := filt_get (fun k => gt L k == r) L.length j hj
    simp only [beq_iff_eq] at h2
    rw [List.getElem?_take_of_lt hj, List.getElem?_drop]
    unfold groupL
    rw [h4]
    have := ha k h1
    unfold pos at this
    rw [h2, h3] at this
    simp only [gt, List.getD, List.getElem?_eq_getElem (show atp L r + j < al.length by omega), Option.getD_some] at this
    rw [List.getElem?_eq_getElem (show atp L r + j < al.length by omega), this]
  · rw [List.getElem?_eq_none (by simp; omega), List.getElem?_eq_none (by show (groupL L r L.length).length ≤ j; have : (groupL L r L.length).length = szp L r := rfl; omega)]

/-- The least elements below a bound. -/
def rootsL (L : List Nat) (n : Nat) : List Nat := (List.range n).filter fun i => gt L i == i
theorem rootsL_succ (L : List Nat) (n : Nat) : rootsL L (n + 1) = rootsL L n ++ if gt L n = n then [n] else [] := by
  unfold rootsL
  rw [List.range_succ, List.filter_append]
  congr 1
  by_cases h : gt L n = n
  · rw [if_pos h, List.filter_cons_of_pos (by rw [beq_iff_eq]; exact h)]; rfl
  · rw [if_neg h, List.filter_cons_of_neg (by rw [beq_iff_eq]; exact h)]; rfl

def partS (b : Nat) (L : List Nat) (r : Nat) : Sl := ⟨some ⟨b, atp L r, none⟩, szp L r, szp L r⟩

theorem part_rd {H : Hp} {b B : Nat} {L al : List Nat} (a : Lst H 1 ⟨some ⟨b, 0, none⟩, L.length, L.length⟩ (ints (nats al)) B) (hl : al.length = L.length) (ha : ∀ k, k < L.length → gt al (pos L k) = k) (r : Nat) :
    Rd H 1 (partS b L r) (ints (nats (groupL L r L.length))) := by
  have hb := atp_le L (r + 1)
  rw [atp_succ] at hb
  obtain ⟨h1, h2, ⟨h3, -⟩ | ⟨b', sp, hx, hB, hlt, hc, hs⟩⟩ := a
  · cases h3
  · cases hx
    refine ⟨?_, fun x hx _ => by cases hx; exact hlt⟩
    have hsp : sp = [] := List.eq_nil_of_length_eq_zero (by rw [List.length_append, ints_len, nats_len, hl] at hs; simp only at hs; omega)
    subst hsp
    rw [List.append_nil] at hc
    show H.seg (some ⟨b, atp L r, none⟩) (szp L r * 1) = _
    rw [seg_row (row_own hc) (by rw [ints_len, nats_len]; omega), Nat.mul_one, ← group_at hl ha]
    simp [ints, nats, List.map_drop, List.map_take]

/-- A list of lists of numbers, in blocks not below a bound. -/
def GrpL (h : Hp) (s : Sl) (G : List (List Nat)) (B : Nat) : Prop :=
  ∃ ss : List Sl, Lst h 1 s (ss.map slv) B ∧ ss.length = G.length ∧ ∀ j, j < G.length → Lst h 1 (ss.getD j ⟨none, 0, 0⟩) (ints (nats (G.getD j []))) B

theorem GrpL.grp {h : Hp} {s : Sl} {G : List (List Nat)} {B : Nat} (g : GrpL h s G B) : Grp h s G := by
  obtain ⟨ss, h1, h2, h3⟩ := g
  exact ⟨ss, h1.rd, h2, fun j hj => (h3 j hj).rd⟩

theorem GrpL.frI {h h' : Hp} {s : Sl} {G : List (List Nat)} {B lo hi : Nat} (g : GrpL h s G B) (f : FrI lo hi h h') (hB : hi ≤ B) : GrpL h' s G B := by
  obtain ⟨ss, h1, h2, h3⟩ := g
  exact ⟨ss, h1.frI f hB, h2, fun j hj => (h3 j hj).frI f hB⟩

theorem Groups_spec {h : Hp} {o : DO} {L : List Nat} (d : DS h o L) (K : Sl → Hp → Prop)
    (hK : ∀ s h', DS h' o L → FrI o.lo o.hi h h' → GrpL h' s (groupsL L L.length) h.size → K s h') : g_dsu_Sets_Groups (some ⟨o.a, 0, none⟩) h K := by
  have hn := d.n
  have hhi := d.hi
  have hinv := d.lab
  unfold g_dsu_Sets_Groups
  refine duLen_spec d _ (cnd_of (fun c => ?_) fun c => ?_)
  · simp only [beq_iff_eq] at c
    have : L = [] := List.eq_nil_of_length_eq_zero (by omega)
    exact hK _ _ d (FrI.refl _ _ _) (by rw [this]; exact ⟨[], Lst.nil _ _ _, rfl, fun j hj => by simp [groupsL] at hj⟩)
  · refine duLabels_spec d _ fun s3 h4 d4 f4 l3 => ?_
    have s4 := f4.size
    have n3 : s3.n = L.length := by have := l3.1; rw [ints_len, nats_len] at this; omega
    refine mks_of (by omega) (by omega) (by omega) fun h6 z6 b6 k6 => mks_of (by omega) (by omega) (by omega) fun h8 z8 b8 k8 => nn_of ?_
    rw [show Int.toNat ((L.length : Nat) : Int) = L.length from rfl, zrow_ints] at b6 b8
    have f6 : Fr h4.size h4 h6 := ⟨by omega, k6⟩
    have f8 : Fr h6.size h6 h8 := ⟨by omega, k8⟩
    have d8 := (d4.fr f6).fr f8
    have hcv : countV L ≤ L.length := cntB_le _ _
    rw [add_mk]
    refine ldI_of d8.count (mks_of (by omega) (by omega) (by omega) fun h12 z12 b12 k12 => ?_)
    have f12 : Fr h8.size h8 h12 := ⟨by omega, k12⟩
    have L5 : Lst h12 1 ⟨some ⟨h4.size, 0, none⟩, L.length, L.length⟩ (ints (nats (List.replicate L.length 0))) h4.size :=
      ⟨by simp [ints_len, nats_len], Nat.le_refl _, .inr ⟨h4.size, [], rfl, Nat.le_refl _, by omega, by rw [List.append_nil, k12 _ (by omega), k8 _ (by omega)]; exact b6, by simp [ints_len, nats_len]⟩⟩
    have L7 : Lst h12 1 ⟨some ⟨h6.size, 0, none⟩, L.length, L.length⟩ (ints (nats (List.replicate L.length 0))) h4.size :=
      ⟨by simp [ints_len, nats_len], Nat.le_refl _, .inr ⟨h6.size, [], rfl, by omega, by omega, by rw [List.append_nil, k12 _ (by omega)]; exact b8, by simp [ints_len, nats_len]⟩⟩
    have L11 : Lst h12 1 ⟨some ⟨h8.size, 0, none⟩, Int.toNat 0, Int.toNat ((countV L : Nat) : Int)⟩ [] h8.size :=
      ⟨by simp, by simp, .inr ⟨h8.size, _, rfl, Nat.le_refl _, by omega, b12, by simp [zrow_len]⟩⟩
    have F12 : FrI o.lo o.hi h h12 := f4.trans ⟨by omega, fun c hc _ => by rw [k12 _ (by omega), k8 _ (by omega), k6 _ hc]⟩
    have l12 := ((l3.fr f6).fr f8).fr f12
    have n3' : ∀ x, s3.a = some x → x.block < h4.size := fun x hx => (l3.blk_lt hx).2.1
    unfold jn
    refine for_of L.length (fun i t H => h12.size ≤ H.size ∧ t.2.2.1 = (i : Int) ∧ t.1 = ((atp L i : Nat) : Int) ∧ DS H o L ∧ FrI o.lo o.hi h H ∧ Lst H 1 s3 (ints (nats L)) h.size ∧
      Lst H 1 ⟨some ⟨h4.size, 0, none⟩, L.length, L.length⟩ (ints (nats (List.replicate L.length 0))) h4.size ∧
      (∃ nx, nx.length = L.length ∧ Lst H 1 ⟨some ⟨h6.size, 0, none⟩, L.length, L.length⟩ (ints (nats nx)) h4.size ∧ ∀ r, r < i → gt L r = r → gt nx r = atp L r) ∧
      Lst H 1 t.2.1 ((rootsL L i).map fun r => slv (partS h4.size L r)) h8.size) ?_
      ⟨Nat.le_refl _, rfl, ?_, (d8.fr f12), F12, l12, L5, ⟨_, by simp, L7, fun r hr => by omega⟩, L11⟩
    rotate_left
    · have : atp L 0 = 0 := by
        unfold atp
        rw [cntB_congr (q := fun _ => false) fun k _ => by simp]
        have : ∀ n, (cntB n fun _ => false) = 0 := fun n => by
          induction n with
          | zero => rfl
          | succ n ih => rw [cntB_succ, ih]; simp
        exact this _
      rw [this]; rfl
    rintro i K1 ⟨at', out, i', u⟩ H hi ⟨Hsz, rfl, rfl, d1, F1, l1, a1, ⟨nx, nxl, x1, hx1⟩, o1⟩ hK1
    simp only
    have hsz : h12.size ≤ h12.size := Nat.le_refl _
    refine cnd_of (fun f => ?_) fun f => ?_
    · simp only [decide_eq_true_eq] at f
      have ei : Int.toNat (i : Int) = i := rfl
      have ew : w64 ((i : Int) + 1) = ((i + 1 : Nat) : Int) := by rw [w64, w64_eq (by omega) (by omega)]; omega
      refine ix_ld1 l1.rd (by omega) (by rw [n3]; omega) rfl ?_
      rw [ei, nats_getD]
      refine cnd_of (fun e => ?_) fun e => ?_
      · simp only [bne_iff_ne] at e
        have e : gt L i ≠ i := fun k => e (congrArg Int.ofNat k)
        have hx1' : ∀ r, r < i + 1 → gt L r = r → gt nx r = atp L r := fun r hr hr' => by
          by_cases g : r = i
          · subst g; exact absurd hr' e
          · exact hx1 r (by omega) hr'
        refine hK1 (by omega) _ _ ⟨Hsz, ew, ?_, d1, F1, l1, a1, ⟨nx, nxl, x1, hx1'⟩, ?_⟩
        · rw [atp_succ, szp_zero hinv e]; rfl
        · rw [rootsL_succ, if_neg e, List.append_nil]; exact o1
      · simp only [bne_eq_false_iff_eq] at e
        have e : gt L i = i := Int.ofNat.inj e
        refine ix_st1 x1 (by omega) (by simp only; omega) rfl fun H1 z1 x2 k1 => ?_
        rw [ei, nats_set] at x2
        have kk : ∀ c, c ≠ h6.size → H1.blk c = H.blk c := fun c hc => k1 c fun x hx => by cases hx; exact hc
        have d2 := d1.keep (h' := H1) (by omega) fun c hc => kk c (by omega)
        have hob : ∀ x, out.a = some x → h8.size ≤ x.block := fun x hx => (o1.blk_lt hx).1
        have l2 := l1.keep (h' := H1) (by omega) fun x hx => kk _ (by have := n3' x hx; omega)
        have a2 := a1.keep (h' := H1) (by omega) fun x hx => kk _ (by cases hx; simp only; omega)
        have o2 := o1.keep (h' := H1) (by omega) fun x hx => kk _ (by have := hob x hx; omega)
        refine duSize_spec d2 _ _ fun H2 d3 f3 z3 => ?_
        have l3' := l2.frI f3 hhi
        have a3 := a2.frI f3 (by omega)
        have o3 := o2.frI f3 (by omega)
        have x3 := x2.frI f3 (by omega)
        have hsv : sizeV L (i : Int) = ((szp L i : Nat) : Int) := by rw [sizeV, if_pos (by omega), ei, e]; rfl
        have hle := atp_le L (i + 1)
        have hsp : 1 ≤ szp L i := by
          have := cntB_pos (n := L.length) (k := i) (p := fun k => gt L k == i) (by omega) (by rw [beq_iff_eq]; exact e)
          unfold szp; omega
        have hsu := atp_succ L i
        rw [hsv]
        have ee : w64 (((atp L i : Nat) : Int) + ((szp L i : Nat) : Int)) = ((atp L (i + 1) : Nat) : Int) := by rw [w64, w64_eq (by omega) (by omega)]; omega
        rw [ee]
        refine ⟨by omega, by omega, by omega, by simp only [Int.ofNat_eq_natCast]; omega, ?_⟩
        have e5 : (if ((atp L (i + 1) : Nat) : Int) = ((atp L i : Nat) : Int) then (some (⟨h4.size, 0, none⟩ : Addr)) else Option.map (fun q : Addr => q.add (Int.toNat ((atp L i : Nat) : Int) * 1)) (some (⟨h4.size, 0, none⟩ : Addr))) = (partS h4.size L i).a := by
          rw [if_neg (by omega)]
          simp [partS, add_mk]
        have e6 : Int.toNat (((atp L (i + 1) : Nat) : Int) - ((atp L i : Nat) : Int)) = szp L i := by omega
        rw [e5, e6]
        have on : out.n ≤ L.length := by
          have h1 := o1.1
          have h2 : (rootsL L i).length ≤ i := cntB_le i _
          simp only [List.length_map] at h1
          omega
        refine app1v_spec (v := slv (partS h4.size L i)) o3 (by omega) rfl (show out.n < 2 ^ 40 by omega) (by decide) fun s' H3 o4 z4 k4 => ?_
        have hob' : ∀ c, c < h8.size → nb out c := fun c hc x hx => by have := hob x hx; omega
        refine hK1 (by omega) _ _ ⟨by omega, ew, rfl, d3.keep z4 fun c hc => (k4 c (by omega) (hob' c (by omega))).1,
          ⟨by omega, fun c hc ho => ?_⟩, l3'.keep z4 fun x hx => (k4 _ (l3'.blk_lt hx).2.1 (hob' _ (by have := n3' x hx; omega))).1,
          a3.keep z4 fun x hx => (k4 _ (a3.blk_lt hx).2.1 (hob' _ (by cases hx; simp only; omega))).1,
          ⟨_, by rw [List.length_set]; exact nxl, x3.keep z4 fun x hx => (k4 _ (x3.blk_lt hx).2.1 (hob' _ (by cases hx; simp only; omega))).1, fun r hr hr' => ?_⟩, ?_⟩
        · rw [(k4 c (by omega) (hob' c (by omega))).1, f3.blk c (by omega) ho, kk c (by omega), F1.blk c hc ho]
        · rw [gt_set]
          by_cases g : i = r
          · rw [if_pos ⟨g, by omega⟩, g]
          · rw [if_neg (fun k => g k.1)]; exact hx1 r (by omega) hr'
        · rw [rootsL_succ, if_pos e, List.map_append]; exact o4
    · simp only [decide_eq_false_iff_not] at f
      obtain rfl : i = L.length := by omega
      have on : out.n = (rootsL L L.length).length := by
        have h1 := o1.1
        simp only [List.length_map] at h1
        omega
      have hob : ∀ x, out.a = some x → h8.size ≤ x.block := fun x hx => (o1.blk_lt hx).1
      have rl : (rootsL L L.length).length ≤ L.length := cntB_le L.length _
      refine for_of L.length (fun i t H2 => H.size ≤ H2.size ∧ t.1 = (i : Int) ∧ DS H2 o L ∧ FrI o.lo o.hi h H2 ∧ Lst H2 1 s3 (ints (nats L)) h.size ∧
        (∃ al, al.length = L.length ∧ Lst H2 1 ⟨some ⟨h4.size, 0, none⟩, L.length, L.length⟩ (ints (nats al)) h4.size ∧ ∀ k, k < i → gt al (pos L k) = k) ∧
        (∃ nx, nx.length = L.length ∧ Lst H2 1 ⟨some ⟨h6.size, 0, none⟩, L.length, L.length⟩ (ints (nats nx)) h4.size ∧ ∀ r, r < L.length → gt L r = r → gt nx r = atp L r + cntB i fun k => gt L k == r) ∧
        Lst H2 1 out ((rootsL L L.length).map fun r => slv (partS h4.size L r)) h8.size) ?_
        ⟨Nat.le_refl _, rfl, d1, F1, l1, ⟨_, by simp, a1, fun k hk => by omega⟩, ⟨nx, nxl, x1, fun r hr hr' => by rw [hx1 r hr hr']; rfl⟩, o1⟩
      rintro i K2 ⟨t, u⟩ H2 hi ⟨Hs2, rfl, d2, F2, l2, ⟨al, all, a2, ha2⟩, ⟨nx, nxl, x2, hx2⟩, o2⟩ hK2
      simp only
      refine cnd_of (fun f => ?_) fun f => ?_
      · simp only [decide_eq_true_eq] at f
        have ei : Int.toNat (i : Int) = i := rfl
        have hle := hinv.le i (by omega)
        have hid := hinv.idem i (by omega)
        have hpl := pos_lt L (k := i) (by omega)
        have hal := atp_le L (gt L i + 1)
        have hpos : gt nx (gt L i) = pos L i := by rw [hx2 _ (by omega) hid]; rfl
        refine ix_ld1 l2.rd (by omega) (by rw [n3]; omega) rfl ?_
        rw [ei, nats_getD]
        refine ix_ld1 x2.rd (by omega) (show ((gt L i : Nat) : Int) < (L.length : Nat) by omega) rfl ?_
        rw [show Int.toNat ((L.getD i 0 : Nat) : Int) = gt L i from rfl, nats_getD, show nx.getD (gt L i) 0 = pos L i from hpos]
        refine ix_st1 a2 (by omega) (show ((pos L i : Nat) : Int) < (L.length : Nat) by omega) rfl fun H3 z3 a3 k3 => ?_
        rw [show Int.toNat ((pos L i : Nat) : Int) = pos L i from rfl, nats_set] at a3
        have kk : ∀ c, c ≠ h4.size → H3.blk c = H2.blk c := fun c hc => k3 c fun x hx => by cases hx; exact hc
        have l3' := l2.keep (h' := H3) (by omega) fun x hx => kk _ (by have := n3' x hx; omega)
        have x3 := x2.keep (h' := H3) (by omega) fun x hx => kk _ (by cases hx; simp only; omega)
        have o3 := o2.keep (h' := H3) (by omega) fun x hx => kk _ (by have := hob x hx; omega)
        refine ix_ld1 l3'.rd (by omega) (by rw [n3]; omega) rfl ?_
        rw [ei, nats_getD]
        refine ix_ld1 x3.rd (by omega) (show ((gt L i : Nat) : Int) < (L.length : Nat) by omega) rfl ?_
        rw [show Int.toNat ((L.getD i 0 : Nat) : Int) = gt L i from rfl, nats_getD, show nx.getD (gt L i) 0 = pos L i from hpos]
        have ep : w64 (((pos L i : Nat) : Int) + 1) = ((pos L i + 1 : Nat) : Int) := by rw [w64, w64_eq (by omega) (by omega)]; omega
        rw [ep]
        refine ix_st1 x3 (by omega) (show ((gt L i : Nat) : Int) < (L.length : Nat) by omega) rfl fun H4 z4 x4 k4 => ?_
        rw [show Int.toNat ((L.getD i 0 : Nat) : Int) = gt L i from rfl, nats_set] at x4
        have kk4 : ∀ c, c ≠ h6.size → H4.blk c = H3.blk c := fun c hc => k4 c fun x hx => by cases hx; exact hc
        refine hK2 (by omega) _ _ ⟨by omega, ?_, (d2.keep (h' := H4) (by omega) fun c hc => by rw [kk4 c (by omega), kk c (by omega)]), ⟨by have := F2.size; omega, fun c hc ho => by rw [kk4 c (by omega), kk c (by omega), F2.blk c hc ho]⟩,
          l3'.keep (by omega) fun x hx => kk4 _ (by have := n3' x hx; omega), ⟨_, by rw [List.length_set]; exact all, a3.keep (by omega) fun x hx => kk4 _ (by cases hx; simp only; omega), fun k hk => ?_⟩,
          ⟨_, by rw [List.length_set]; exact nxl, x4, fun r hr hr' => ?_⟩, o3.keep (by omega) fun x hx => kk4 _ (by have := hob x hx; omega)⟩
        · show w64 ((i : Int) + 1) = ((i + 1 : Nat) : Int)
          rw [w64, w64_eq (by omega) (by omega)]; omega
        · rw [gt_set]
          by_cases g : k = i
          · subst g; rw [if_pos ⟨rfl, by omega⟩]
          · rw [if_neg (fun q => pos_inj L (j := k) (k := i) (by omega) (by omega) q.1.symm)]; exact ha2 k (by omega)
        · rw [gt_set, cntB_succ]
          by_cases g : gt L i = r
          · rw [if_pos ⟨g, by omega⟩, if_pos (by rw [beq_iff_eq]; exact g)]
            unfold pos; rw [g]; omega
          · rw [if_neg (fun q => g q.1), if_neg (by rw [beq_iff_eq]; exact g), hx2 r hr hr']; rfl
      · simp only [decide_eq_false_iff_not] at f
        obtain rfl : i = L.length := by omega
        refine for_of (rootsL L L.length).length (fun i t H3 => H2.size ≤ H3.size ∧ t.1 = (i : Int) ∧ DS H3 o L ∧ FrI o.lo o.hi h H3 ∧ Lst H3 1 ⟨some ⟨h4.size, 0, none⟩, L.length, L.length⟩ (ints (nats al)) h4.size ∧
          ∃ ss : List Sl, ss.length = i ∧ Lst H3 1 out ((ss ++ ((rootsL L L.length).drop i).map (partS h4.size L)).map slv) h8.size ∧
            ∀ j, j < i → Lst H3 1 (ss.getD j ⟨none, 0, 0⟩) (ints (nats (groupL L ((rootsL L L.length).getD j 0) L.length))) H2.size) ?_
          ⟨Nat.le_refl _, rfl, d2, F2, a2, [], rfl, by simpa [Function.comp_def] using o2, fun j hj => by omega⟩
        have oblt : ∀ x, out.a = some x → x.block < H2.size := fun x hx => (o2.blk_lt hx).2.1
        rintro i K3 ⟨t, u⟩ H3 hi ⟨Hs3, rfl, d3, F3, a3, ss, ssl, o3, hss⟩ hK3
        simp only
        refine cnd_of (fun f => ?_) fun f => ?_
        · simp only [decide_eq_true_eq, on, Int.ofNat_eq_natCast] at f
          have fi : i < (rootsL L L.length).length := by omega
          have ei : Int.toNat (i : Int) = i := rfl
          obtain ⟨x, hx, hs⟩ := seg_some o3.seg (by omega)
          refine ⟨x, hx, by omega, by omega, ?_⟩
          have hcell : H3.cell (x.add (Int.toNat (i : Int) * 1)) = some (slv (partS h4.size L ((rootsL L L.length)[i]))) := by
            have hsg := o3.seg
            rw [hx] at hsg
            rw [ei, seg_cell hsg (by omega), Nat.mul_one, List.getElem?_map, List.getElem?_append_right (by omega), ssl, Nat.sub_self, List.getElem?_map, List.getElem?_drop, Nat.add_zero, List.getElem?_eq_getElem fi]
            rfl
          refine ldS_of hcell (Clone_rd (part_rd a3 all ha2 _) ?_ _ fun s' H4 l4 f4 => ?_)
          · have : szp L ((rootsL L L.length)[i]) ≤ L.length := cntB_le _ _
            simp only [partS]; omega
          · have o4 := o3.fr f4
            refine ix_stv (v := .slice s'.a s'.n s'.c) o4 (by omega) (by omega) fun H5 z5 o5 k5 => ?_
            have s45 := f4.size
            have kk5 : ∀ c, nb out c → H5.blk c = H4.blk c := k5
            have lo : ∀ c, c < h8.size → nb out c := fun c hc y hy => by have := hob y hy; omega
            have hi' : ∀ c, H2.size ≤ c → nb out c := fun c hc y hy => by have := oblt y hy; omega
            refine hK3 fi _ _ ⟨by omega, ?_, (d3.fr f4).keep (by omega) fun c hc => kk5 c (lo c (by omega)), ⟨by have := F3.size; omega, fun c hc ho => ?_⟩, (a3.fr f4).keep (by omega) fun y hy => kk5 _ (lo _ (by cases hy; simp only; omega)),
              ss ++ [s'], by simp [ssl], ?_, fun j hj => ?_⟩
            · show w64 ((i : Int) + 1) = ((i + 1 : Nat) : Int)
              rw [w64, w64_eq (by omega) (by omega)]; omega
            · have := F3.size
              rw [kk5 c (lo c (by omega)), f4.blk c (by omega), F3.blk c hc ho]
            · have e : ((ss ++ List.map (partS h4.size L) (List.drop i (rootsL L L.length))).map slv).set (Int.toNat (i : Int)) (.slice s'.a s'.n s'.c) = ((ss ++ [s']) ++ List.map (partS h4.size L) (List.drop (i + 1) (rootsL L L.length))).map slv := by
                rw [ei, List.drop_eq_getElem_cons fi, List.map_cons, List.map_append, List.set_append, if_neg (by simp [ssl]), List.length_map, ssl, Nat.sub_self]
                simp [slv]
              rw [e] at o5; exact o5
            · by_cases g : j < i
              · rw [show (ss ++ [s']).getD j ⟨none, 0, 0⟩ = ss.getD j ⟨none, 0, 0⟩ by simp only [List.getD]; rw [List.getElem?_append_left (by omega)]]
                have := (hss j g).fr f4
                exact this.keep (by omega) fun y hy => kk5 _ (hi' _ (this.blk_lt hy).1)
              · obtain rfl : j = i := by omega
                rw [show (ss ++ [s']).getD j ⟨none, 0, 0⟩ = s' by simp only [List.getD]; rw [List.getElem?_append_right (by omega), ssl, Nat.sub_self]; rfl,
                  show (rootsL L L.length).getD j 0 = (rootsL L L.length)[j] by simp [List.getD, List.getElem?_eq_getElem fi]]
                exact (l4.le Hs3).keep (by omega) fun y hy => kk5 _ (hi' _ (by have := (l4.blk_lt hy).1; omega))
        · simp only [decide_eq_false_iff_not, on, Int.ofNat_eq_natCast] at f
          obtain rfl : i = (rootsL L L.length).length := by omega
          refine hK _ _ d3 F3 ⟨ss, ?_, by simp [groupsL, rootsL] at ssl ⊢; exact ssl, fun j hj => ?_⟩
          · have := o3.le (show h.size ≤ h8.size by omega)
            rw [List.drop_length] at this
            simpa using this
          · have hj' : j < (rootsL L L.length).length := by simpa [groupsL, rootsL] using hj
            have := (hss j hj').le (show h.size ≤ H2.size by omega)
            have e : (groupsL L L.length).getD j [] = groupL L ((rootsL L L.length).getD j 0) L.length := by
              unfold groupsL
              show ((rootsL L L.length).map _).getD j [] = _
              simp [List.getD, List.getElem?_eq_getElem hj']
            rw [e]; exact this

end Go.Hx
