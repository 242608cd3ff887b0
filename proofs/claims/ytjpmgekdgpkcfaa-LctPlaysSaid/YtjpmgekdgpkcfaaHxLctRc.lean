/- The document's forest: what each function answers. No condition. -/
import Derived.Test.YtjpmgekdgpkcfaaHxLctRb
import Derived.Test.YtjpmgekdgpkcfaaHxDsuT
namespace Go.Hx
set_option linter.unusedSimpArgs false
set_option linter.unusedVariables false

section
variable {h : Hp} {A n : Nat} {L : Es} {key : Nat → Int} {k e : Sl} {B : Nat}

/-- What holds of a document's forest that is one. -/
structure RG (L : Es) (n : Nat) : Prop where
  fo : FO (eL L)
  bd : ∀ e, e ∈ L → e.1 < n ∧ e.2 < n
  hn : n ≤ 65536
  hL : L.length < 2 ^ 40
  uq : UQ L

theorem LT.rg {h : Hp} {a b n : Nat} {L : Es} {key : Nat → Int} (d : LT h a b n L key) : RG L n := ⟨d.fo, d.bd, d.lt.2.2.2, d.len, d.uq⟩

set_option maxHeartbeats 1000000 in
theorem rPath_spec (d : RF h A n L key k e B) (rg : RG L n) (x y : Int) (K : Sl → Hp → Prop) (hK : ∀ s h' p, Lst h' 1 s (ints (nats p)) h.size → Fr h.size h h' → pthI (eL L) n x y p → K s h') : g_ref12_Forest_Path (some ⟨A, 0, none⟩) x y h K := by
  obtain ⟨fo, bd, hn, hL, _⟩ := rg
  unfold g_ref12_Forest_Path
  have nil : ∀ h', Fr h.size h h' → (¬ cnI (eL L) n x y) → K ⟨none, 0, 0⟩ h' := fun h' f hno => hK _ h' [] (Lst.nil _ _ _) f (.inl ⟨rfl, fun u v a b c d g => hno ⟨u, v, a, b, c, d, g⟩⟩)
  refine rHas d x _ fun c1 e1 => cnd_of (fun c => nil _ (Fr.refl _ _) fun ⟨u, v, h1, h2, h3, h4, _⟩ => ?_) fun c => rHas d y _ fun c2 e2 => cnd_of (fun c' => nil _ (Fr.refl _ _) fun ⟨u, v, h1, h2, h3, h4, _⟩ => ?_) fun c' => ?_
  · rw [e1.2 ⟨by omega, by omega⟩] at c; cases c
  · rw [e2.2 ⟨by omega, by omega⟩] at c'; cases c'
  have hx := e1.1 (by simpa using c)
  have hy := e2.1 (by simpa using c')
  obtain ⟨u, rfl⟩ : ∃ u : Nat, x = u := ⟨x.toNat, by unfold rng at hx; omega⟩
  obtain ⟨v, rfl⟩ : ∃ v : Nat, y = v := ⟨y.toNat, by unfold rng at hy; omega⟩
  have hu : u < n := by unfold rng at hx; omega
  have hv : v < n := by unfold rng at hy; omega
  refine rTow_spec d fo bd hn hL hv _ fun s5 h6 W l6 f6 tw => ?_
  have s5n := l6.1
  rw [ints_len, tw.len] at s5n
  refine ix_ld1 l6.rd (by omega) (by omega) rfl ?_
  rw [Int.toNat_natCast]
  refine cnd_of (fun c3 => nil _ f6 fun ⟨u', v', h1, h2, _, _, g⟩ => ?_) fun c3 => ?_
  · obtain rfl : u = u' := by omega
    obtain rfl : v = v' := by omega
    have := (tw.con u hu).2 g.symm
    simp only [decide_eq_true_eq] at c3; omega
  simp only [decide_eq_false_iff_not] at c3
  obtain ⟨lv, hlv⟩ := tw.nxt
  refine alo_of fun h10 z10 b10 k10 => ?_
  have f10 : Fr h6.size h6 h10 := ⟨by omega, k10⟩
  have q10 : Lst h10 1 ⟨some ⟨h6.size, 0, none⟩, 1, 1⟩ (ints (nats [u])) h6.size := ⟨rfl, Nat.le_refl _, .inr ⟨h6.size, [], rfl, Nat.le_refl _, by omega, b10, rfl⟩⟩
  refine loop_of (fun m (st : Int × Sl × Unit) g => ∃ (cur : Nat) (out : List Nat), st.1 = cur ∧ cur < n ∧ 0 ≤ W.getD cur 0 ∧ lv cur ≤ m ∧ Fr h6.size h6 g ∧ Lst g 1 st.2.1 (ints (nats out)) h6.size ∧ SP (eL L) u cur out ∧ ∀ z, z ∈ out → lv cur ≤ lv z) ?_ (n := lv u) ⟨u, [u], rfl, hu, by omega, Nat.le_refl _, f10, q10, SP.one _ _, fun z hz => by simp at hz; subst hz; exact Nat.le_refl _⟩
  rintro m Kr ⟨st, t, _⟩ g ⟨cur, out, rfl, hc, h0, hm, fg, lo, sp, hmin⟩ hKr
  simp only at lo
  refine cnd_of (fun c4 => ?_) fun c4 => ?_
  · simp only [bne_iff_ne, ne_eq] at c4
    obtain ⟨x, h1, h2, h3, h4, h5⟩ := hlv cur hc h0 (by omega)
    have l6g := l6.keep fg.size fun y hy => fg.blk _ (l6.blk_lt hy).2.1
    refine ix_ld1 l6g.rd (by omega) (by simp only; omega) rfl ?_
    rw [Int.toNat_natCast, h2]
    have lon := lo.1
    rw [ints_len, nats_len] at lon
    have hol : out.length ≤ n := nodup_len n _ sp.nd fun z hz => Cn_lt bd (sp.cn hz) hu
    refine app1_spec lo fg.size (by simp only; omega) fun s' h' l' z' k' => ?_
    obtain ⟨m', rfl⟩ : ∃ m', m = m' + 1 := ⟨m - 1, by omega⟩
    have hxo : x ∉ out := fun hx => by have := hmin x hx; omega
    refine hKr m' rfl _ _ ⟨x, out ++ [x], rfl, h1, h5, by omega, ⟨by have := fg.size; omega, fun c hc => ?_⟩, by rw [nats_app]; exact l', ?_, fun z hz => ?_⟩
    · rw [(k' c (by have := fg.size; omega) fun y hy => by have := (lo.blk_lt hy).1; omega).1, fg.blk c hc]
    · have hd := sp.hd
      have hls := sp.ls
      rw [List.getLast?_eq_some_iff] at hls
      obtain ⟨o2, rfl⟩ := hls
      refine ⟨?_, by simp, ?_, ?_⟩
      · cases o2 <;> simpa using hd
      · rw [show o2 ++ [cur] ++ [x] = o2 ++ cur :: [x] by simp, wk_app]
        exact ⟨sp.wk, h3, trivial, trivial⟩
      · rw [List.nodup_append]
        refine ⟨sp.nd, by simp, fun a ha b hb e => ?_⟩
        simp only [List.mem_singleton] at hb
        subst hb e
        exact hxo ha
    · rcases List.mem_append.1 hz with g | g
      · have := hmin z g; omega
      · simp only [List.mem_singleton] at g; subst g; exact Nat.le_refl _
  · simp only [bne_eq_false_iff_eq] at c4
    obtain rfl : cur = v := by omega
    exact hK _ g out (lo.le f6.size).eta ⟨by have := f6.size; have := fg.size; omega, fun c hc => by rw [fg.blk c (by have := f6.size; omega), f6.blk c hc]⟩ (.inr ⟨u, cur, rfl, rfl, hu, hc, sp⟩)

theorem rConn_spec (d : RF h A n L key k e B) (rg : RG L n) (x y : Int) (K : Bool → Hp → Prop) (hK : ∀ c h', Fr h.size h h' → (c = true ↔ cnI (eL L) n x y) → K c h') : g_ref12_Forest_Connected (some ⟨A, 0, none⟩) x y h K := by
  unfold g_ref12_Forest_Connected
  refine rPath_spec d rg x y _ fun s h' p ls f hp => hK _ h' f ?_
  have := ls.1
  rw [ints_len, nats_len] at this
  rw [← hp.cn]
  simp only [decide_eq_true_eq, Int.ofNat_eq_natCast]; omega

theorem rDist_spec (d : RF h A n L key k e B) (rg : RG L n) (x y : Int) (K : Int → Hp → Prop) (hK : ∀ h' p, Fr h.size h h' → pthI (eL L) n x y p → K ((p.length : Nat) - 1) h') : g_ref12_Forest_Dist (some ⟨A, 0, none⟩) x y h K := by
  unfold g_ref12_Forest_Dist
  refine rPath_spec d rg x y _ fun s h' p ls f hp => ?_
  have := ls.1
  rw [ints_len, nats_len] at this
  have hle := (hp.le fun u v c hu => Cn_lt rg.bd c hu).1
  have hn := rg.hn
  rw [wlen (by omega), show s.n = p.length by omega]
  exact hK h' p f hp

theorem RF.ky (d : RF h A n L key k e B) {v : Nat} (hv : v < n) {K : Int → Prop} (hK : K (key v)) : nn (some ⟨A, 0, none⟩) fun a => ldS h (a.add 1) fun s => ix s.a s.n (v : Int) fun x => ldI .i64 h (x.add (Int.toNat (v : Int) * 1)) K := by
  obtain ⟨KL, l1, l2, l3⟩ := d.kl
  have kn := d.kn
  refine d.k1 (K := fun s => ix s.a s.n (v : Int) fun x => ldI .i64 h (x.add (Int.toNat (v : Int) * 1)) K) (ix_ld1 l1.rd (by omega) (by omega) rfl ?_)
  rw [Int.toNat_natCast, l3 v hv]; exact hK

theorem rKey_spec (d : RF h A n L key k e B) (x : Int) (K : Int → Hp → Prop) (hK : K (if 0 ≤ x ∧ x < (n : Int) then key x.toNat else 0) h) : g_ref12_Forest_Key (some ⟨A, 0, none⟩) x h K := by
  unfold g_ref12_Forest_Key
  refine rHas d x _ fun c1 e1 => cnd_of (fun c => ?_) fun c => ?_
  · rw [if_neg fun q => by rw [e1.2 q] at c; cases c] at hK; exact hK
  · have hx := e1.1 (by simpa using c)
    unfold rng at hx
    rw [if_pos hx] at hK
    obtain ⟨u, rfl⟩ : ∃ u : Nat, x = u := ⟨x.toNat, by omega⟩
    exact d.ky (by omega) (K := fun v => K v h) hK

theorem rTrees_spec (d : RF h A n L key k e B) (rg : RG L n) (K : Int → Hp → Prop) (hK : K ((n : Int) - L.length) h) : g_ref12_Forest_Trees (some ⟨A, 0, none⟩) h K := by
  unfold g_ref12_Forest_Trees
  have hn := rg.hn; have hL := rg.hL
  refine rValid d _ (cnd_f rfl (d.k1 (K := fun s4 => nn (some ⟨A, 0, none⟩) fun a5 => ldS h (a5.add 2) fun s6 => K (w64 ((Int.ofNat s4.n) - (Int.ofNat s6.n))) h) (d.e2 (K := fun s6 => K (w64 ((Int.ofNat k.n) - (Int.ofNat s6.n))) h) ?_)))
  rw [d.kn, d.en]
  have : w64 (Int.ofNat n - Int.ofNat L.length) = (n : Int) - L.length := by simp only [Int.ofNat_eq_natCast]; rw [w64, w64_eq (by omega) (by omega)]
  rw [this]; exact hK

theorem rSize_spec (d : RF h A n L key k e B) (rg : RG L n) (x : Int) (K : Int → Hp → Prop) (hK : ∀ r h', Fr h.size h h' → szI (eL L) n x r → K r h') : g_ref12_Forest_Size (some ⟨A, 0, none⟩) x h K := by
  obtain ⟨fo, bd, hn, hL, _⟩ := rg
  unfold g_ref12_Forest_Size
  refine rHas d x _ fun c1 e1 => cnd_of (fun c => ?_) fun c => hK _ _ (Fr.refl _ _) (.inl ⟨fun q => (by rw [e1.2 q] at c; cases c), rfl⟩)
  have hx := e1.1 c
  unfold rng at hx
  obtain ⟨v, rfl⟩ : ∃ u : Nat, x = u := ⟨x.toNat, by omega⟩
  have hv : v < n := by omega
  refine rTow_spec d fo bd hn hL hv _ fun s3 h4 W l4 f4 tw => ?_
  have sn := l4.1
  rw [ints_len, tw.len] at sn
  refine for_of n (fun i (st : Int × Int × Unit) g => st.2.1 = (i : Int) ∧ g = h4 ∧ st.1 = (cntB i (fun w => decide (0 ≤ W.getD w 0)) : Nat)) ?_ ⟨rfl, rfl, rfl⟩
  rintro i Kr ⟨t, st, _⟩ g hi ⟨rfl, rfl, rfl⟩ hKr
  have s1 := cntB_succ i (fun w => decide (0 ≤ W.getD w 0))
  have cl := cntB_le i (fun w => decide (0 ≤ W.getD w 0))
  refine cnd_of (fun c2 => ?_) fun c2 => ?_
  · simp only [decide_eq_true_eq, Int.ofNat_eq_natCast] at c2
    refine ix_ld1 l4.rd (show (0 : Int) ≤ (i : Int) by omega) (show (i : Int) < (s3.n : Int) by omega) rfl ?_
    rw [Int.toNat_natCast]
    refine cnd_of (fun c3 => hKr (by omega) _ _ ⟨wsucc (by omega), rfl, ?_⟩) fun c3 => hKr (by omega) _ _ ⟨wsucc (by omega), rfl, ?_⟩
    · rw [show decide (0 ≤ W.getD i 0) = true from c3] at s1
      simp only [wsucc (show cntB i (fun w => decide (0 ≤ W.getD w 0)) < 2 ^ 40 by omega), s1]; rfl
    · rw [show decide (0 ≤ W.getD i 0) = false from c3] at s1
      simp only [s1]; rfl
  · simp only [decide_eq_false_iff_not, Int.ofNat_eq_natCast] at c2
    obtain rfl : i = n := by omega
    refine hK _ g f4 (.inr ⟨v, (List.range i).filter (fun w => decide (0 ≤ W.getD w 0)), rfl, hv, List.filter_sublist.nodup List.nodup_range, fun z => ?_, rfl⟩)
    rw [List.mem_filter, List.mem_range, decide_eq_true_eq]
    exact and_congr_right fun hz => tw.con z hz

set_option maxHeartbeats 1000000 in
theorem rMin_spec (d : RF h A n L key k e B) (rg : RG L n) (x y : Int) (K : Int → Bool → Hp → Prop) (hK : ∀ m c h' p, Fr h.size h h' → pthI (eL L) n x y p → mnI key p m c → K m c h') : g_ref12_Forest_Min (some ⟨A, 0, none⟩) x y h K := by
  have hn := rg.hn
  unfold g_ref12_Forest_Min
  refine rPath_spec d rg x y _ fun s h2 p ls f hp => ?_
  have sn := ls.1
  rw [ints_len, nats_len] at sn
  obtain ⟨hple, hplt⟩ := hp.le fun u v c hu => Cn_lt rg.bd c hu
  refine cnd_of (fun c => ?_) fun c => ?_
  · simp only [beq_iff_eq, Int.ofNat_eq_natCast] at c
    have : p = [] := List.eq_nil_of_length_eq_zero (by omega)
    exact hK _ _ h2 p f hp (.inl ⟨this, rfl, rfl⟩)
  simp only [beq_eq_false_iff_ne, Int.ofNat_eq_natCast] at c
  have d2 := d.fr f
  refine ix_ld1 ls.rd (by omega) (by omega) rfl ?_
  rw [show Int.toNat 0 = 0 from rfl, nats_getD]
  refine for_of (p.length - 1) (fun i (st : Int × Int × Unit) g => st.2.1 = ((i + 1 : Nat) : Int) ∧ g = h2 ∧ ∃ w : Nat, st.1 = w ∧ w ∈ p ∧ ∀ j, j ≤ i → ¬ bk key (p.getD j 0) w) ?_ ⟨rfl, rfl, p.getD 0 0, rfl, getD_mem' (by omega), fun j hj => ?_⟩
  rotate_left
  · obtain rfl : j = 0 := by omega
    unfold bk; omega
  rintro i Kr ⟨t, st, _⟩ g hi ⟨rfl, rfl, w, rfl, hw, hmin⟩ hKr
  refine cnd_of (fun c2 => ?_) fun c2 => ?_
  rotate_left
  · simp only [decide_eq_false_iff_not, Int.ofNat_eq_natCast] at c2
    refine hK _ _ g p f hp (.inr ⟨w, hw, rfl, rfl, fun z hz => ?_⟩)
    obtain ⟨j, hj, rfl⟩ : ∃ j, j < p.length ∧ p.getD j 0 = z := by
      obtain ⟨j, hj, ej⟩ := List.getElem_of_mem hz
      exact ⟨j, hj, by simp [List.getD, List.getElem?_eq_getElem hj, ej]⟩
    exact hmin j (by omega)
  simp only [decide_eq_true_eq, Int.ofNat_eq_natCast] at c2
  have hil : i + 1 < p.length := by omega
  have hm := getD_mem' hil
  obtain ⟨z, hz⟩ : ∃ z, z = p.getD (i + 1) 0 := ⟨_, rfl⟩
  have P : (nats p).getD (Int.toNat (((i + 1 : Nat)) : Int)) 0 = (z : Nat) := by rw [Int.toNat_natCast, nats_getD, hz]
  rw [← hz] at hm
  have zn := hplt z hm
  have wn := hplt w hw
  have i0 : (0 : Int) ≤ ((i + 1 : Nat) : Int) := by omega
  have i1 : ((i + 1 : Nat) : Int) < (s.n : Int) := by omega
  have wk2 : w64 (((i + 1 : Nat) : Int) + 1) = ((i + 1 + 1 : Nat) : Int) := wsucc (by omega)
  have better : bk key z w → Kr ((z : Int), w64 (((i + 1 : Nat) : Int) + 1), ()) g := fun hb => hKr (by omega) _ _ ⟨wk2, rfl, z, rfl, hm, fun j hj => by
    by_cases q : j = i + 1
    · subst q; rw [← hz]; unfold bk; omega
    · have := hmin j (by omega)
      unfold bk at *; omega⟩
  have worse : ¬ bk key z w → Kr ((w : Int), w64 (((i + 1 : Nat) : Int) + 1), ()) g := fun hb => hKr (by omega) _ _ ⟨wk2, rfl, w, rfl, hw, fun j hj => by
    by_cases q : j = i + 1
    · subst q; rw [← hz]; exact hb
    · exact hmin j (by omega)⟩
  have rdk : ∀ {X : Int → Prop}, X (key z) → nn (some ⟨A, 0, none⟩) fun a8 => ldS g (a8.add 1) fun s9 => ix s.a s.n ((i + 1 : Nat) : Int) fun a10 => ldI .i64 g (a10.add (Int.toNat ((i + 1 : Nat) : Int) * 1)) fun n11 => ix s9.a s9.n n11 fun a12 => ldI .i64 g (a12.add (Int.toNat n11 * 1)) X := fun {X} hX => by
    obtain ⟨KL, l1, l2, l3⟩ := d2.kl
    have kn := d2.kn
    refine d2.k1 (K := fun s9 => ix s.a s.n ((i + 1 : Nat) : Int) fun a10 => ldI .i64 g (a10.add (Int.toNat ((i + 1 : Nat) : Int) * 1)) fun n11 => ix s9.a s9.n n11 fun a12 => ldI .i64 g (a12.add (Int.toNat n11 * 1)) X) (ix_ld1 ls.rd i0 i1 rfl ?_)
    rw [P]
    refine ix_ld1 l1.rd (by omega) (by omega) rfl ?_
    rw [Int.toNat_natCast, l3 z zn]; exact hX
  refine rdk (d2.ky wn ?_)
  refine cnd_of (fun c3 => ix_ld1 ls.rd i0 i1 rfl ?_) fun c3 => cnd_of (fun c4 => ix_ld1 ls.rd i0 i1 rfl ?_) fun c4 => worse ?_
  · rw [P]; exact better (.inl (by simpa using c3))
  · rw [P]
    refine cnd_of (fun c5 => ix_ld1 ls.rd i0 i1 rfl ?_) fun c5 => worse ?_
    · rw [P]
      simp only [beq_iff_eq, decide_eq_true_eq] at c4 c5
      exact better (.inr ⟨c4, by omega⟩)
    · simp only [beq_iff_eq, decide_eq_false_iff_not] at c3 c4 c5
      unfold bk; omega
  · simp only [beq_eq_false_iff_ne, decide_eq_false_iff_not] at c3 c4
    unfold bk; omega

theorem mnI.uniq {key : Nat → Int} {p : List Nat} {m m' : Int} {c c' : Bool} (h1 : mnI key p m c) (h2 : mnI key p m' c') : m = m' ∧ c = c' := by
  rcases h1 with ⟨rfl, rfl, rfl⟩ | ⟨w, hw, rfl, rfl, hm⟩
  · rcases h2 with ⟨_, rfl, rfl⟩ | ⟨w, hw, _⟩
    · exact ⟨rfl, rfl⟩
    · cases hw
  · rcases h2 with ⟨rfl, _⟩ | ⟨w', hw', rfl, rfl, hm'⟩
    · cases hw
    · have g1 := hm w' hw'
      have g2 := hm' w hw
      unfold bk at g1 g2
      exact ⟨by omega, rfl⟩

theorem rOn_spec {s : Sl} {p : List Nat} (hs : Rd h 1 s (ints (nats p))) (hp : p.length < 2 ^ 40) (v : Nat) (K : Bool → Hp → Prop) (hK : ∀ c, (c = true ↔ v ∈ p) → K c h) : g_ref12_on s (v : Int) h K := by
  have sn := hs.ilen
  rw [nats_len] at sn
  unfold g_ref12_on
  refine for_of p.length (fun i (st : Int × Unit) g => st.1 = (i : Int) ∧ g = h ∧ ∀ j, j < i → p.getD j 0 ≠ v) ?_ ⟨rfl, rfl, fun j hj => by omega⟩
  rintro i Kr ⟨st, _⟩ g hi ⟨rfl, rfl, hj⟩ hKr
  refine cnd_of (fun c => ?_) fun c => hK _ ⟨fun q => (by cases q), fun hv => ?_⟩
  · simp only [decide_eq_true_eq, Int.ofNat_eq_natCast] at c
    refine ix_ld1 hs (by omega) (by omega) rfl ?_
    rw [Int.toNat_natCast, nats_getD]
    refine cnd_of (fun c2 => hK _ ⟨fun _ => ?_, fun _ => rfl⟩) fun c2 => hKr (by omega) _ _ ⟨wsucc (by omega), rfl, fun j hj' => ?_⟩
    · simp only [beq_iff_eq] at c2
      have := getD_mem' (p := p) (i := i) (by omega)
      rwa [show p.getD i 0 = v by omega] at this
    · by_cases q : j = i
      · subst q; simp only [beq_eq_false_iff_ne] at c2; omega
      · exact hj j (by omega)
  · simp only [decide_eq_false_iff_not, Int.ofNat_eq_natCast] at c
    obtain ⟨j, hjl, ej⟩ := List.getElem_of_mem hv
    exact absurd (by simp [List.getD, List.getElem?_eq_getElem hjl, ej]) (hj j (by omega))

theorem rMeet_spec (d : RF h A n L key k e B) (rg : RG L n) (x y t : Int) (K : Int → Bool → Hp → Prop) (hK : ∀ m c h', Fr h.size h h' → meI (eL L) n x y t m c → K m c h') : g_ref12_Forest_Meet (some ⟨A, 0, none⟩) x y t h K := by
  have hn := rg.hn
  have fo := rg.fo
  have ple := fun {x y : Int} {p : List Nat} (hp : pthI (eL L) n x y p) => hp.le fun u v c hu => Cn_lt rg.bd c hu
  unfold g_ref12_Forest_Meet
  refine rPath_spec d rg x y _ fun s1 h2 p1 l1 f2 e1 => rPath_spec (d.fr f2) rg y t _ fun s2 h4 p2 l2 f4 e2 => rPath_spec ((d.fr f2).fr f4) rg t x _ fun s3 h6 p3 l3 f6 e3 => ?_
  have F : Fr h.size h h6 := (f2.trans (f4.mono f2.size)).trans (f6.mono (Nat.le_trans f2.size f4.size))
  have R1 : Rd h6 1 s1 (ints (nats p1)) := (l1.rd.fr f4).fr f6
  have R2 : Rd h6 1 s2 (ints (nats p2)) := l2.rd.fr f6
  have R3 : Rd h6 1 s3 (ints (nats p3)) := l3.rd
  have sn := R1.ilen
  rw [nats_len] at sn
  have b1 := (ple e1).1; have b2 := (ple e2).1; have b3 := (ple e3).1
  refine for_of p1.length (fun i (st : Int × Unit) g => st.1 = (i : Int) ∧ g = h6 ∧ ∀ j, j < i → ¬ (p1.getD j 0 ∈ p2 ∧ p1.getD j 0 ∈ p3)) ?_ ⟨rfl, rfl, fun j hj => by omega⟩
  rintro i Kr ⟨st, _⟩ g hi ⟨rfl, rfl, hj⟩ hKr
  refine cnd_of (fun c => ?_) fun c => ?_
  · simp only [decide_eq_true_eq, Int.ofNat_eq_natCast] at c
    have hil : i < p1.length := by omega
    obtain ⟨z, hz⟩ : ∃ z, z = p1.getD i 0 := ⟨_, rfl⟩
    have hz1 : z ∈ p1 := by rw [hz]; exact getD_mem' hil
    have P : (nats p1).getD (Int.toNat (i : Int)) 0 = (z : Nat) := by rw [Int.toNat_natCast, nats_getD, hz]
    have i0 : (0 : Int) ≤ (i : Int) := by omega
    have i1 : (i : Int) < (s1.n : Int) := by omega
    have nxt : ¬ (z ∈ p2 ∧ z ∈ p3) → Kr (w64 ((i : Int) + 1), ()) g := fun hno => hKr hil _ _ ⟨wsucc (by omega), rfl, fun j hj' => by
      by_cases q : j = i
      · subst q; rw [← hz]; exact hno
      · exact hj j (by omega)⟩
    refine ix_ld1 R1 i0 i1 rfl ?_
    rw [P]
    refine rOn_spec R2 (by omega) z _ fun c2 h2' => cnd_of (fun q2 => ix_ld1 R1 i0 i1 rfl ?_) fun q2 => nxt fun g => by rw [h2'.2 g.1] at q2; cases q2
    rw [P]
    refine rOn_spec R3 (by omega) z _ fun c3 h3' => cnd_of (fun q3 => ix_ld1 R1 i0 i1 rfl ?_) fun q3 => nxt fun g => by rw [h3'.2 g.2] at q3; cases q3
    rw [P]
    have m2 := h2'.1 q2; have m3 := h3'.1 q3
    refine hK _ _ g F (.inr ?_)
    rcases e1 with ⟨q, _⟩ | ⟨u, v, hx, hy, hu, hv, s1⟩
    · rw [q] at hz1; cases hz1
    rcases e2 with ⟨q, _⟩ | ⟨v', w, hy', ht, _, hw, s2⟩
    · rw [q] at m2; cases m2
    rcases e3 with ⟨q, _⟩ | ⟨w', u', ht', hx', _, _, s3⟩
    · rw [q] at m3; cases m3
    obtain rfl : v = v' := by omega
    obtain rfl : w = w' := by omega
    obtain rfl : u = u' := by omega
    exact ⟨u, v, w, z, hx, hy, ht, hu, hv, hw, ⟨p1, p2, _, s1, s2, s3.rev fo.sym, hz1, m2, by simpa using m3⟩, rfl, rfl⟩
  · simp only [decide_eq_false_iff_not, Int.ofNat_eq_natCast] at c
    refine hK _ _ g F (.inl ⟨rfl, rfl, ?_⟩)
    rintro ⟨⟨u, v, hx, hy, hu, hv, g1⟩, u', w, hx', ht, _, hw, g2⟩
    obtain rfl : u = u' := by omega
    obtain ⟨p, hp⟩ := fo.ex g1
    obtain ⟨r, hr⟩ := fo.ex g2
    obtain ⟨xs, z, ys, zs, rfl, rfl, dj⟩ := fo.part hp hr
    obtain ⟨P, Q, R, q1, q2, q3, m1, m2, m3⟩ := Mt3.of fo.sym hp hr dj
    obtain rfl := e1.uniq fo (.inr ⟨u, v, hx, hy, hu, hv, q1⟩)
    obtain rfl := e2.uniq fo (.inr ⟨v, w, hy, ht, hv, hw, q2⟩)
    have := e3.uniq fo (.inr ⟨w, u, ht, hx, hw, hu, q3.rev fo.sym⟩)
    subst this
    obtain ⟨j, hjl, ej⟩ := List.getElem_of_mem m1
    have ej' : p1.getD j 0 = z := by simp [List.getD, List.getElem?_eq_getElem hjl, ej]
    exact hj j (by omega) ⟨by rw [ej']; exact m2, by rw [ej']; simpa using m3⟩

theorem meI.uniq {L : Es} (fo : FO (eL L)) {n : Nat} {x y t m m' : Int} {c c' : Bool} (d : meI (eL L) n x y t m c) (d' : meI (eL L) n x y t m' c') : m = m' ∧ c = c' :=
  meI_eq d d' Iff.rfl fun u v w z z' u' v' w' a1 a2 a3 b1 b2 b3 mt mt' => by
    obtain rfl : u = u' := by omega
    obtain rfl : v = v' := by omega
    obtain rfl : w = w' := by omega
    exact fo.meet mt mt'
end

end Go.Hx
