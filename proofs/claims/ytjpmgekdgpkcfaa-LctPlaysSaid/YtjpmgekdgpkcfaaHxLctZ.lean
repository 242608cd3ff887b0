/- Link-cut forests: the list of a way. No condition. -/
import Derived.Test.YtjpmgekdgpkcfaaHxLctO
import Derived.Test.YtjpmgekdgpkcfaaHxLctW
namespace Go.Hx
set_option linter.unusedSimpArgs false
set_option linter.unusedVariables false

theorem Lst.pop {h : Hp} {s : Sl} {cs : List Value} {B : Nat} (hl : Lst h 1 s cs B) (hn : 0 < s.n) : Lst h 1 ⟨s.a, s.n - 1, s.c⟩ cs.dropLast B := by
  obtain ⟨h1, h2, ⟨rfl, _⟩ | ⟨b, sp, ha, hB, hb, hc, hs⟩⟩ := hl
  · simp at hn
  · have hcs : cs ≠ [] := fun e => by subst e; simp at h1; omega
    have e := List.dropLast_concat_getLast hcs
    refine ⟨by simp only [List.length_dropLast]; omega, by simp only; omega, .inr ⟨b, cs.getLast hcs :: sp, ha, hB, hb, ?_, ?_⟩⟩
    · rw [hc]
      conv => lhs; rw [← e]
      simp
    · rw [← hs]
      conv => rhs; rw [← e]
      simp

theorem Lst.popA {h : Hp} {s : Sl} {cs : List Value} {B : Nat} (hl : Lst h 1 s cs B) : (if (Int.ofNat s.c) = 0 then s.a else Option.map (fun q => q.add (Int.toNat 0 * 1)) s.a) = s.a := by
  obtain ⟨h1, h2, ⟨rfl, _⟩ | ⟨b, sp, ha, hB, hb, hc, hs⟩⟩ := hl
  · rfl
  · rw [ha]
    split
    · rfl
    · simp [add_mk]

/-- Before a place of a tree; behind it; what is open above it. -/
def lfc : Cx → List Nat
  | [] => []
  | (d, p, s) :: c => if d = true then lfc c ++ (s.seq ++ [p]) else lfc c
def rgc : Cx → List Nat
  | [] => []
  | (d, p, s) :: c => if d = true then rgc c else p :: (s.seq ++ rgc c)
def stk : Cx → List Nat
  | [] => []
  | (d, p, s) :: c => if d = true then stk c else stk c ++ [p]

theorem plug_lr (t : Tr) (c : Cx) : (plug t c).seq = lfc c ++ (t.seq ++ rgc c) := by
  induction c generalizing t with
  | nil => simp [plug, lfc, rgc]
  | cons f c ih =>
    obtain ⟨d, p, s⟩ := f
    show (plug _ c).seq = _
    rw [ih]
    cases d <;> simp [lfc, rgc, Tr.seq]
theorem stk_rgc (c : Cx) : (stk c).length ≤ (rgc c).length := by
  induction c with
  | nil => simp [stk, rgc]
  | cons f c ih =>
    obtain ⟨d, p, s⟩ := f
    cases d <;> simp [stk, rgc] <;> omega
theorem stk_nil {c : Cx} (h : stk c = []) : rgc c = [] := by
  induction c with
  | nil => rfl
  | cons f c ih =>
    obtain ⟨d, p, s⟩ := f
    cases d
    · simp [stk] at h
    · simp only [stk, if_true] at h
      simp only [rgc, if_true]; exact ih h

theorem pop_cx {t : Tr} {c : Cx} (h : stk c ≠ []) : ∃ t' p s c', plug t c = plug (.nd t' p s) c' ∧ stk c = stk c' ++ [p] ∧ lfc c ++ t.seq = lfc c' ++ t'.seq ∧ (∀ f, f ∈ c' → f ∈ c) ∧ ∃ f, f ∈ c ∧ f.2.1 = p := by
  induction c generalizing t with
  | nil => exact absurd rfl h
  | cons f c ih =>
    obtain ⟨d, p, s⟩ := f
    cases d with
    | true =>
      obtain ⟨t', p', s', c', h1, h2, h3, h4, f, h5, h6⟩ := ih (t := .nd s p t) (by simpa [stk] using h)
      refine ⟨t', p', s', c', h1, by simpa [stk] using h2, ?_, fun f hf => List.mem_cons_of_mem _ (h4 f hf), f, List.mem_cons_of_mem _ h5, h6⟩
      rw [← h3]; simp [lfc, Tr.seq]
    | false =>
      exact ⟨t, p, s, c, rfl, by simp [stk], by simp [lfc], fun f hf => List.mem_cons_of_mem _ hf, _, List.mem_cons_self .., rfl⟩

section
variable {h : Hp} {a b n : Nat} {N : NN} {tr : Int}

theorem f1_spec {g : Hp} {cd v : Nat} {so : Sl} {out : List Nat} {B : Nat} (hc : g.blk cd = some (.cells [.slice so.a so.n so.c])) (ls : Lst g 1 so (ints (nats out)) B) (n1 : nb so cd) (hB : B ≤ g.size) (hcd : cd < g.size) (hn : out.length < 2 ^ 40) (K : Hp → Prop)
    (hK : ∀ g' so', g'.blk cd = some (.cells [.slice so'.a so'.n so'.c]) → Lst g' 1 so' (ints (nats (out ++ [v]))) B → nb so' cd → g.size ≤ g'.size → (∀ c, c < g.size → c ≠ cd → nb so c → g'.blk c = g.blk c ∧ nb so' c) → K g') :
    g_lct_Forest_Path_f1 (v : Int) ⟨cd, 0, none⟩ g K := by
  unfold g_lct_Forest_Path_f1
  refine ldS_of (p := so.a) (n := so.n) (c := so.c) (by rw [cell_own hc]; rfl) ?_
  have hsn : so.n < 2 ^ 40 := by have := ls.1; simp [ints_len, nats_len] at this; omega
  refine app1_spec ls hB hsn fun s' h' hl hz hk => ?_
  simp only [add_mk, Nat.zero_add, Nat.add_zero]
  obtain ⟨k1, k2⟩ := hk cd hcd n1
  refine stc_of (k1.trans hc) (by simp) fun h6 z6 b6 k6 => ?_
  refine hK h6 s' b6 (by rw [nats_app]; exact hl.keep (by omega) fun x hx => k6 _ fun e => k2 x hx e.symm) k2 (by omega) fun c hcl hne hnb => ?_
  obtain ⟨q1, q2⟩ := hk c hcl hnb
  exact ⟨(k6 c hne).trans q1, q2⟩

/-- Where the visit stands. -/
structure VI (h0 : Hp) (a b n : Nat) (N : NN) (tr : Int) (T : Tr) (pp : Int) (cd : Nat) (t : Tr) (c : Cx) (o : Sl) (g : Hp) : Prop where
  eT : T = plug t c
  ex : ∃ N' so, FS g a b n N' tr ∧ TT n N' T pp ∧ Out N N' T.seq ∧ (∀ f, f ∈ c → (N' f.2.1).rev = false) ∧ g.blk cd = some (.cells [.slice so.a so.n so.c]) ∧ Lst g 1 so (ints (nats (lfc c))) h0.size ∧ nb so cd ∧ ∀ x, so.a = some x → nb o x.block
  lo : Lst g 1 o (ints (nats (stk c))) h0.size
  n2 : nb o cd
  fr : FrB a b h0 g
  cb : h0.size ≤ cd ∧ cd < g.size

set_option maxHeartbeats 1000000 in
theorem visit_spec {h0 : Hp} (d : FS h a b n N tr) {T : Tr} {pp : Int} (t : TT n N T pp) {cd : Nat} (la : a < h0.size) (lb : b < h0.size) (fr : FrB a b h0 h) (hcd : h0.size ≤ cd ∧ cd < h.size) {so : Sl} (hso : h.blk cd = some (.cells [.slice so.a so.n so.c])) (ls : Lst h 1 so [] h0.size) (n1 : nb so cd) (K : Hp → Prop)
    (hK : ∀ h' N' so', FS h' a b n N' tr → FrB a b h0 h' → TT n N' T pp → Out N N' T.seq → h'.blk cd = some (.cells [.slice so'.a so'.n so'.c]) → Lst h' 1 so' (ints (nats T.seq)) h0.size → K h') :
    g_lct_Forest_visit_of_lct_Forest_Path_f1 (some ⟨a, 0, none⟩) T.rt ⟨cd, 0, none⟩ h K := by
  have hn := d.hn
  have len := t.len
  have hlt := fr.size
  unfold g_lct_Forest_visit_of_lct_Forest_Path_f1
  refine loop_of (fun k (s : Int × Sl × Unit) g => ∃ t c, s.1 = t.rt ∧ VI h0 a b n N tr T pp cd t c s.2.1 g ∧ T.seq.length = k + (lfc c).length) ?_ (n := T.seq.length) ⟨T, [], rfl, ⟨rfl, ⟨N, so, d, t, Out.refl _ _, fun f hf => (by cases hf), hso, ls, n1, fun x _ y hy => (by cases hy)⟩, Lst.nil _ _ _, fun x hx => (by cases hx), fr, hcd⟩, by simp [lfc]⟩
  rintro k Kr ⟨v, o, _⟩ g ⟨t0, c0, ev, vi, hk⟩ hKr
  simp only at ev vi
  have ln0 := vi.lo.1
  simp only [ints_len, nats_len, Nat.mul_one] at ln0
  refine jn_of (fun _ g' => g' = g ∧ (t0 ≠ .nil ∨ stk c0 ≠ [])) ?_ fun K6 hK6 => ?_
  rotate_left
  · -- whether it goes on
    refine cnd_of (fun q => hK6 _ _ ⟨rfl, .inl fun e => ?_⟩) fun q => cnd_of (fun q2 => hK6 _ _ ⟨rfl, .inr fun e => ?_⟩) fun q2 => ?_
    · subst e; rw [ev] at q; simp [Tr.rt] at q
    · simp only [decide_eq_true_eq, Int.ofNat_eq_natCast] at q2; rw [e] at ln0; simp at ln0; omega
    · have e1 : t0 = .nil := by
        cases t0 with
        | nil => rfl
        | nd l w r => rw [ev] at q; simp [Tr.rt] at q
      have e2 : stk c0 = [] := List.eq_nil_of_length_eq_zero (by simp only [decide_eq_false_iff_not, Int.ofNat_eq_natCast] at q2; omega)
      obtain ⟨N', so', x1, x2, x3, x4, x5, x6, x7, x8⟩ := vi.ex
      refine hK g N' so' x1 vi.fr x2 x3 x5 ?_
      have : T.seq = lfc c0 := by rw [vi.eT, plug_lr, e1, stk_nil e2]; simp [Tr.seq]
      rw [this]; exact x6
  rintro ⟨⟩ _ ⟨rfl, hne⟩
  refine jn_of (fun (s : Sl × Unit) g' => ∃ c, VI h0 a b n N tr T pp cd .nil c s.1 g' ∧ stk c ≠ [] ∧ lfc c = lfc c0) ?_ fun K9 hK9 => ?_
  rotate_left
  · -- down to the left
    refine loop_of (fun m (s : Int × Sl × Unit) g => ∃ t c, s.1 = t.rt ∧ VI h0 a b n N tr T pp cd t c s.2.1 g ∧ t.seq.length ≤ m ∧ (t ≠ .nil ∨ stk c ≠ []) ∧ lfc c = lfc c0) ?_ (n := t0.seq.length) ⟨t0, c0, ev, vi, Nat.le_refl _, hne, rfl⟩
    rintro m Kx ⟨v, o, _⟩ g ⟨t, c, ev, vi, hm, hne, hl⟩ hKx
    simp only at ev vi
    subst ev
    refine cnd_of (fun q => ?_) fun q => ?_
    · cases t with
      | nil => simp [Tr.rt] at q
      | nd l w r =>
        obtain ⟨eT, ⟨N', so', x1, x2, x3, x4, x5, x6, x7, x8⟩, lo, n2, fr', cb⟩ := vi
        subst eT
        simp only [Tr.rt]
        refine push_TT x1 x2 _ fun g1 N1 y1 y2 y3 y4 y5 y6 y7 => ?_
        have hB : h0.size ≤ g.size := fr'.size
        have kb : ∀ c, h0.size ≤ c → c < g.size → g1.blk c = g.blk c := fun c h1 h2 => y2.blk c h2 (by omega) (by omega)
        have lo1 := lo.keep (h' := g1) (by omega) fun x hx => kb _ (lo.blk_lt hx).1 (lo.blk_lt hx).2.1
        have ls1 := x6.keep (h' := g1) (by omega) fun x hx => kb _ (x6.blk_lt hx).1 (x6.blk_lt hx).2.1
        have cd1 := (kb cd cb.1 cb.2).trans x5
        have hsl := plug_lr (.nd l w r) c
        have hst := stk_rgc c
        have lno := lo.1
        simp only [ints_len, nats_len, Nat.mul_one] at lno
        have on : o.n < 2 ^ 40 := by
          have := congrArg List.length hsl
          simp only [List.length_append] at this
          omega
        refine app1_spec lo1 (by omega) on fun s' h' hl' hz hkk => ?_
        have fsk : ∀ c, c < h0.size → h'.blk c = g1.blk c := fun c hc => (hkk c (by omega) fun x hx => by have := (lo1.blk_lt hx).1; omega).1
        have fs' : FS h' a b n N1 tr := y1.keep hz (fsk a la) (fsk b lb)
        have wn : w < n := x2.lt w ((mem_plug _ _ _).2 (.inl (by simp [Tr.seq])))
        refine fs'.nd wn (K := fun a27 => bnd 0 2 <| ldI .i64 h' (((a27.add (Int.toNat (w : Int) * 9)).add 1).add (Int.toNat 0 * 1)) _) ⟨by omega, by omega, ?_⟩
        simp only [add_mk, Nat.zero_add, Int.toNat_natCast]
        refine ldI_of (by rw [fs'.cell wn 1 (by omega) (by simp)]; rfl) ?_
        -- the left child
        have rvc : ∀ f, f ∈ (false, w, r) :: c → (N1 f.2.1).rev = false := fun f hf => by
          rcases List.mem_cons.1 hf with rfl | hf
          · exact y6
          · rw [y7 _ (by simp only [cnodes, List.mem_flatMap]; exact ⟨f, hf, by simp⟩)]; exact x4 f hf
        have zc := (ZC_plug (t := l) (c := (false, w, r) :: c) rvc y4.rs).2
        have k0 : (N1 w).k0 = l.rt := by
          have := zc.2.2.1
          simp only [Bool.false_eq_true, if_false] at this
          exact this.1
        rw [k0]
        have hml : (Tr.nd l w r).seq.length = l.seq.length + (r.seq.length + 1) := by simp [Tr.seq]
        obtain ⟨m', rfl⟩ : ∃ m', m = m' + 1 := ⟨m - 1, by omega⟩
        refine hKx m' rfl _ _ ⟨l, (false, w, r) :: c, rfl, ⟨rfl, ⟨N1, so', fs', y4, x3.trans y5, rvc, ?_, ?_, x7, fun x hx => ?_⟩, ?_, ?_, ?_, ?_⟩, by omega, .inr (by simp [stk]), by simpa [lfc] using hl⟩
        · rw [(hkk cd (by omega) n2).1]; exact cd1
        · have : lfc ((false, w, r) :: c) = lfc c := by simp [lfc]
          rw [this]
          exact ls1.keep hz fun x hx => (hkk _ (ls1.blk_lt hx).2.1 (x8 x hx)).1
        · exact (hkk _ (ls1.blk_lt hx).2.1 (x8 x hx)).2
        · have : stk ((false, w, r) :: c) = stk c ++ [w] := by simp [stk]
          rw [this, nats_app]; exact hl'
        · exact (hkk cd (by omega) n2).2
        · exact ⟨by omega, fun c hc h1 h2 => (fsk c hc).trans ((y2.blk c (by omega) h1 h2).trans (fr'.blk c hc h1 h2))⟩
        · exact ⟨cb.1, by omega⟩
    · have e1 : t = .nil := by
        cases t with
        | nil => rfl
        | nd l w r => simp [Tr.rt] at q
      subst e1
      exact hK9 _ _ ⟨c, vi, hne.resolve_left fun h => h rfl, hl⟩
  -- one more
  rintro ⟨o1, _⟩ g1 ⟨c, vi1, hst, hlc⟩
  simp only at vi1
  obtain ⟨eT, ⟨N', so', x1, x2, x3, x4, x5, x6, x7, x8⟩, lo, n2, fr', cb⟩ := vi1
  obtain ⟨t', p, s, c', e1, e2, e3, e4, f, e5, e6⟩ := pop_cx (t := .nil) hst
  have hB : h0.size ≤ g1.size := fr'.size
  have lno := lo.1
  rw [e2] at lno lo
  simp only [ints_len, nats_len, Nat.mul_one, List.length_append, List.length_cons, List.length_nil] at lno
  have hsl := congrArg List.length (plug_lr (.nd t' p s) c')
  rw [← e1, ← eT] at hsl
  simp only [List.length_append] at hsl
  have hsr := stk_rgc c'
  have pT : p ∈ T.seq := by rw [eT, e1, plug_lr]; simp [Tr.seq]
  have pn : p < n := x2.lt p pT
  simp only [Tr.seq, List.length_append, List.length_cons] at hsl
  have w1 : w64 ((Int.ofNat o1.n) - 1) = (((stk c').length : Nat) : Int) := by
    rw [w64, w64_eq (by simp only [Int.ofNat_eq_natCast]; omega) (by simp only [Int.ofNat_eq_natCast]; omega)]
    simp only [Int.ofNat_eq_natCast]; omega
  simp only [w1]
  refine ix_ld1 lo.rd (by omega) (by omega) rfl ?_
  have gv : (nats (stk c' ++ [p])).getD ((((stk c').length : Nat) : Int)).toNat 0 = (p : Int) := by
    rw [Int.toNat_natCast, nats_getD]; simp [List.getD]
  rw [gv]
  have lpop := lo.pop (by omega)
  rw [nats_app, ints_app, show ints (nats [p]) = [Value.int .i64 (p : Int)] from rfl, List.dropLast_concat] at lpop
  have oc := lo.2.1
  refine ⟨by omega, by omega, by simp only [Int.ofNat_eq_natCast]; omega, Int.le_refl _, ?_⟩
  rw [lo.popA]
  have hlen : (lfc c).length < 2 ^ 40 := by
    have := congrArg List.length e3
    simp only [List.length_append, Tr.seq, List.length_nil] at this
    omega
  refine f1_spec x5 x6 x7 hB cb.2 hlen _ fun g2 s2 y1 y2 y3 y4 y5 => ?_
  have fsk : ∀ c, c < h0.size → g2.blk c = g1.blk c := fun c hc => (y5 c (by omega) (by omega) fun x hx => by have := (x6.blk_lt hx).1; omega).1
  have fs' : FS g2 a b n N' tr := x1.keep y4 (fsk a la) (fsk b lb)
  refine fs'.nd pn (K := fun a15 => bnd 1 2 <| ldI .i64 g2 (((a15.add (Int.toNat (p : Int) * 9)).add 1).add (Int.toNat 1 * 1)) _) ⟨by omega, by omega, ?_⟩
  simp only [add_mk, Nat.zero_add, Int.toNat_natCast]
  refine ldI_of (by rw [fs'.cell pn 2 (by omega) (by simp)]; rfl) ?_
  have rvp : (N' p).rev = false := by have := x4 f e5; rwa [e6] at this
  have rvc : ∀ f, f ∈ (true, p, t') :: c' → (N' f.2.1).rev = false := fun f hf => by
    rcases List.mem_cons.1 hf with rfl | hf
    · exact rvp
    · exact x4 f (e4 f hf)
  have eT' : T = plug s ((true, p, t') :: c') := by rw [eT, e1]; rfl
  have rs := x2.rs
  rw [eT'] at rs
  have zc := (ZC_plug (t := s) (c := (true, p, t') :: c') rvc rs).2
  have k1 : (N' p).k1 = s.rt := by
    have := zc.2.2.1
    simp only [if_true] at this
    exact this.2
  rw [k1]
  have e3' : lfc c = lfc c' ++ t'.seq := by simpa [Tr.seq] using e3
  have el : lfc ((true, p, t') :: c') = lfc c ++ [p] := by rw [e3']; simp [lfc]
  have nbo : ∀ x, (⟨o1.a, (Int.toNat ((((stk c').length : Nat) : Int) - 0)), (Int.toNat ((Int.ofNat o1.c) - 0))⟩ : Sl).a = some x → o1.a = some x := fun x h => h
  have lpop' : Lst g1 1 ⟨o1.a, (Int.toNat ((((stk c').length : Nat) : Int) - 0)), (Int.toNat ((Int.ofNat o1.c) - 0))⟩ (ints (nats (stk c'))) h0.size := by
    have e : (⟨o1.a, (Int.toNat ((((stk c').length : Nat) : Int) - 0)), (Int.toNat ((Int.ofNat o1.c) - 0))⟩ : Sl) = ⟨o1.a, o1.n - 1, o1.c⟩ := by
      congr 1
      · omega
    rw [e]; exact lpop
  have nbs : ∀ x, o1.a = some x → nb so' x.block := fun x hx y hy e => x8 y hy x hx e.symm
  have l1 : (lfc c).length = (lfc c').length + t'.seq.length := by
    rw [e3', List.length_append]
  rw [← hlc] at hk
  obtain ⟨k', rfl⟩ : ∃ k', k = k' + 1 := ⟨k - 1, by omega⟩
  refine hKr k' rfl _ _ ⟨s, (true, p, t') :: c', rfl, ⟨eT', ⟨N', s2, fs', x2, x3, rvc, y1, by rw [el]; exact y2, y3, fun x hx y hy e => ?_⟩, ?_, n2, ?_, ⟨cb.1, by omega⟩⟩, ?_⟩
  · have := (lo.blk_lt (nbo _ hy)).2.1
    exact (y5 y.block this (n2 y hy).symm (nbs y hy)).2 x hx e.symm
  · have : stk ((true, p, t') :: c') = stk c' := by simp [stk]
    rw [this]
    refine lpop'.keep y4 fun x hx => ?_
    have := (lo.blk_lt (nbo _ hx)).2.1
    exact (y5 x.block this (n2 x hx).symm (nbs x hx)).1
  · exact ⟨by omega, fun c hc h1 h2 => (fsk c hc).trans (fr'.blk c hc h1 h2)⟩
  · rw [el, List.length_append]; simp only [List.length_cons, List.length_nil]; omega

/-- The list that Path returns. -/
def pthI (E : Nat → Nat → Prop) (n : Nat) (x y : Int) (p : List Nat) : Prop := (p = [] ∧ ∀ u v : Nat, x = u → y = v → u < n → v < n → ¬ Cn E u v) ∨ ∃ u v : Nat, x = u ∧ y = v ∧ u < n ∧ v < n ∧ SP E u v p

theorem lPathL_spec (d : FS h a b n N tr) {pa : Nat → Int} {F0 : List (Tr × Int)} (lf : LF n N pa F0) (x y : Int) (K : Sl → Hp → Prop)
    (hK : ∀ s h' N' pa' F' p, FS h' a b n N' tr → FrB a b h h' → LF n N' pa' F' → Sa n N N' pa pa' → Lst h' 1 s (ints (nats p)) h.size → pthI (Ed pa) n x y p → K s h') : g_lct_Forest_Path (some ⟨a, 0, none⟩) x y h K := by
  have hn := d.hn
  unfold g_lct_Forest_Path
  refine lPath_any d lf x y _ (fun q => cnd_t rfl (hK _ h N pa F0 [] d (FrB.refl _ _ _) lf ⟨fun _ _ => Iff.rfl, fun _ => rfl⟩ (Lst.nil _ _ _) (.inl ⟨rfl, fun u v h1 h2 h3 h4 => absurd ⟨⟨by omega, by omega⟩, by omega, by omega⟩ q⟩))) fun u v h2 N2 pa2 l G c hx hy hu hv d2 f2 lf2 sa pu hc hf rv => cnd_of (fun q => ?_) fun q => ?_
  · refine hK _ h2 N2 pa2 _ [] d2 f2 lf2 sa (Lst.nil _ _ _) (.inl ⟨rfl, fun u' v' h1 h3 _ _ g => ?_⟩)
    obtain rfl : u = u' := by omega
    obtain rfl : v = v' := by omega
    have := hc.2 (lf2.conn pu (by simp [Tr.seq]) ((Cn_congr sa.1 _ _).2 g))
    rw [this] at q; cases q
  · subst hx hy
    obtain ⟨ys, hys⟩ := hf (by simpa using q)
    obtain ⟨s1, s2, _⟩ := lf2.size
    have way : SP (Ed pa) u v (Tr.nd l v .nil).seq := by
      have hp := lf2.pc _ (List.mem_cons_self ..)
      simp only at hp
      have hl : (Tr.nd l v .nil).seq.getLast? = some v := by simp [Tr.seq]
      rw [hys] at hp hl ⊢
      exact (chn_SP lf2.dp hp hl).congr sa.1
    refine d2.nd hv (K := fun a5 => ldI .i64 h2 ((a5.add (Int.toNat (v : Int) * 9)).add 6) _) ?_
    simp only [add_mk, Nat.zero_add, Int.toNat_natCast]
    refine ldI_of (by rw [d2.cell hv 6 (by omega) (by omega)]; rfl) ?_
    rw [s1]
    refine mks_of (by omega) (by omega) (by omega) fun h8 z8 b8 k8 => alo_of fun h10 z10 b10 k10 => ?_
    simp only [add_mk, Nat.zero_add, Nat.add_zero, Int.toNat_natCast] at b8 ⊢
    refine stc_of b10 (by simp) fun h11 z11 b11 k11 => ?_
    have la := d2.la; have lb := d2.lb
    have old : ∀ c, c < h2.size → h11.blk c = h2.blk c := fun c hc => by rw [k11 c (by omega), k10 c (by omega), k8 c hc]
    have d11 : FS h11 a b n N2 tr := d2.keep (by omega) (old a la) (old b lb)
    refine visit_spec (so := ⟨some ⟨h2.size, 0, none⟩, 0, (Tr.nd l v .nil).seq.length⟩) d11 lf2.tt la lb ⟨by omega, fun c hc _ _ => old c hc⟩ ⟨by omega, by omega⟩ b11 ⟨by simp, Nat.zero_le _, .inr ⟨h2.size, zrow [.int .i64 0] (Tr.nd l v .nil).seq.length, rfl, Nat.le_refl _, by omega, ?_, ?_⟩⟩ (fun x hx => by cases hx; simp only; omega) _ fun h12 N3 so' d12 f12 t12 o12 c12 l12 => ?_
    · rw [k11 _ (by omega), k10 _ (by omega), b8]; rfl
    · simp [zrow_len]
    · refine ldS_of (p := so'.a) (n := so'.n) (c := so'.c) (by rw [cell_own c12]; rfl) (hK so' h12 N3 pa2 _ _ d12 (f2.trans f12) (lf2.reform t12 rfl o12) ⟨sa.1, fun w => (o12.key w).trans (sa.2 w)⟩ (l12.le f2.size) (.inr ⟨u, v, rfl, rfl, hu, hv, way⟩))
end

end Go.Hx
