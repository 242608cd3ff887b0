/- Regions: in the order of the text, or in whatever order the tape picks. No condition. -/
import Derived.Test.YthohhnnjpaepnaaHxSoundF
import Derived.OrdersIn
import Derived.TacticsIn
namespace Go.Hx
set_option linter.unusedSimpArgs false
set_option linter.unusedVariables false
open Go.RowKit

theorem wanted_none {ops : Array Oper} {o : Oper} {t : Array Value} (h : o.guard = none) : Region.wanted o (yielded ops t) = true := by
  simp [Region.wanted, h]

theorem guarded_ok {ops : Array Oper} {o : Oper} {e : Env} {t : Array Value} {X Y : Env → Prop} (hr : Ref e t) (hg : guarded ops o e X Y) :
    (Region.wanted o (yielded ops t) = true ∧ ∃ e', Ref e' t ∧ X e') ∨ (Region.wanted o (yielded ops t) = false ∧ ∃ e', Ref e' t ∧ Y e') := by
  unfold guarded at hg
  cases hgd : o.guard with
  | none => rw [hgd] at hg; exact .inl ⟨wanted_none hgd, e, hr, hg⟩
  | some jw =>
    obtain ⟨j, want⟩ := jw
    rw [hgd] at hg
    simp only at hg
    have hy : Region.wanted o (yielded ops t) = (yielded ops t j == some want) := by simp [Region.wanted, hgd]
    rw [hy]
    cases hd : (ops[j]?).bind (·.dst) with
    | none =>
      rw [hd] at hg
      have : yielded ops t j = none := by simp [yielded, hd]
      exact .inr ⟨by simp [this], e, hr, hg⟩
    | some d =>
      rw [hd] at hg
      simp only at hg
      cases he : e.get d with
      | none => rw [he] at hg; exact hg.elim
      | some v =>
        rw [he] at hg
        have ht := hr.2 d v he
        by_cases hv : ∃ b, v = .bool b
        · obtain ⟨b, rfl⟩ := hv
          have hyb : yielded ops t j = some b := by simp [yielded, hd, ht]
          simp only at hg
          cases b <;> cases want <;> simp only [cnd'] at hg
          · exact .inl ⟨by simp [hyb], _, hr.same he, hg⟩
          · exact .inr ⟨by simp [hyb], _, hr.same he, hg⟩
          · exact .inr ⟨by simp [hyb], _, hr.same he, hg⟩
          · exact .inl ⟨by simp [hyb], _, hr.same he, hg⟩
        · have hyn : yielded ops t j = none := by
            simp only [yielded, hd, Option.bind_some, ht]
            split
            · rename_i b hb; cases hb; exact absurd ⟨_, rfl⟩ hv
            · rfl
          have hY : Y e := by
            revert hg
            split
            · rename_i b hb; cases hb; exact absurd ⟨_, rfl⟩ hv
            · exact id
            · rename_i hb; cases hb
          exact .inr ⟨by simp [hyn], e, hr, hY⟩

/-- The same deferred calls, as many temporaries. -/
def Like (a' a : Act) : Prop := a'.defers = a.defers ∧ a'.tmps.size = a.tmps.size
theorem Like.refl (a : Act) : Like a a := ⟨rfl, rfl⟩
theorem Like.trans {a b c : Act} (h : Like a b) (k : Like b c) : Like a c := ⟨h.1.trans k.1, h.2.trans k.2⟩
theorem put_like (a : Act) (d : Option Tmp) (v : Value) : Like (a.put d v) a := by cases d <;> simp [Like, Act.put]

section
variable {P : Program} {C : CTab} {ops : Array Oper} {B : Nat} {Fc : Fence} {nn : Nat}

theorem xop_defer {o : Oper} {ev : Operand → Option Value} {h : Hp} {K : Value → Hp → Prop} (hk : xop P C o.op ev h K) : ∀ c, o.op ≠ .defer c := by
  intro c hc
  rw [hc] at hk
  exact hk.elim

theorem xops_ok (hF : Fok Fc) (hC : OkTab P C) {Q : Exit → Act → World → Prop} {K : Env → Hp → Prop} : ∀ (l : List Oper) (e : Env) (a : Act) (w : World), B ≤ w.heap.size → Ref e a.tmps →
    (∀ e' a' w', Ref e' a'.tmps → Like a' a → Bel B w w' → K e' (absW B w') → Q .normal a' w') →
    xops P C ops l e (absW B w) K → wpListIn Fc nn P ops Q l a w
  | [], e, a, w, hB, hr, hQ, hk => hQ e a w hr (Like.refl a) (Bel.refl B w) hk
  | o :: l, e, a, w, hB, hr, hQ, hk => by
    simp only [xops] at hk
    unfold wpListIn
    rcases guarded_ok hr hk with ⟨hw, e', hr', hX⟩ | ⟨hw, e', hr', hY⟩
    · rw [if_pos hw]
      refine (xop_ok (ρ := a.eval) hC (fun x v h => hr'.eval x v h) (fun _ => rfl) hB hX).wpIn hF (xop_defer hX) fun v w' hb hK => ?_
      exact xops_ok hF hC l _ _ w' (Nat.le_trans hB hb.size) (hr'.put o.dst v) (fun e2 a2 w2 h1 h2 h3 h4 => hQ e2 a2 w2 h1 (h2.trans (put_like a _ _)) (hb.trans h3) h4) hK
    · rw [if_neg (by rw [hw]; exact Bool.false_ne_true)]
      exact ⟨fun f _ => hF.fn f, xops_ok hF hC l _ _ w hB (hr'.put o.dst undef) (fun e2 a2 w2 h1 h2 h3 h4 => hQ e2 a2 w2 h1 (h2.trans (put_like a _ _)) h3 h4) hY⟩

/-! ### Whatever order -/

theorem getD_tf {L : Array Bool} {i : Nat} (h : L.getD i true = false) : L.getD i false = false := by
  rcases Nat.lt_or_ge i L.size with h' | h'
  · simp [h'] at h ⊢; exact h
  · simp [Array.getElem?_eq_none h'] at h


/-- Whatever is listed, what comes before it is listed. -/
def Shut (ops : Array Oper) (L : Array Bool) : Prop :=
  ∀ j oj, ops[j]? = some oj → L.getD j false = true → ∀ e ∈ oj.after, Region.binds .any e = true → L.getD e.on false = true

theorem Shut.set {L : Array Bool} {i : Nat} (h : Shut ops L) (hi : i ∈ Region.ready .any ops L) : Shut ops (L.setIfInBounds i true) := by
  intro j oj hj hl e he hb
  obtain ⟨_, oi, hoi, hall⟩ := mem_ready.1 hi
  by_cases hij : i = j
  · subst hij
    have : oj = oi := Option.some.inj (hj.symm.trans hoi)
    subst this
    exact getD_set_true (hall e he hb)
  · rw [getD_set_ne false hij] at hl
    exact getD_set_true (h j oj hj hl e he hb)

theorem mask_fold (acc : List Nat) (k : Nat) : ∀ (es : List Edge) (s : Nat),
    (es.foldl (fun s e => match Region.binds .any e with | true => s ||| 2 ^ e.on ||| acc.getD e.on 0 | false => s) s).testBit k = true →
    s.testBit k = true ∨ ∃ e ∈ es, Region.binds .any e = true ∧ (e.on = k ∨ (acc.getD e.on 0).testBit k = true)
  | [], s, h => .inl h
  | e :: es, s, h => by
    simp only [List.foldl_cons] at h
    rcases mask_fold acc k es _ h with h1 | ⟨e', he', h1⟩
    · cases hb : Region.binds .any e with
      | false => rw [hb] at h1; exact .inl h1
      | true =>
        rw [hb] at h1
        simp only [Nat.testBit_or, Bool.or_eq_true, Nat.testBit_two_pow, decide_eq_true_eq] at h1
        rcases h1 with (h1 | h1) | h1
        · exact .inl h1
        · exact .inr ⟨e, by simp, hb, .inl h1⟩
        · exact .inr ⟨e, by simp, hb, .inr h1⟩
    · exact .inr ⟨e', by simp [he'], h1⟩

theorem ancL_ok {L : Array Bool} (hs : Shut ops L) : ∀ (r : List Oper) (acc : List Nat), (∀ j, r[j]? = ops[acc.length + j]?) →
    (∀ j k, (acc.getD j 0).testBit k = true → L.getD j false = true → L.getD k false = true) →
    ∀ j k, ((ancL r acc).getD j 0).testBit k = true → L.getD j false = true → L.getD k false = true
  | [], acc, _, hacc => hacc
  | o :: r, acc, hr, hacc => by
    have h0 : ops[acc.length]? = some o := by simpa using (hr 0).symm
    refine ancL_ok hs r (acc ++ [maskOf acc o]) (fun j => ?_) (fun j k hb hl => ?_)
    · have := hr (j + 1)
      simpa [Nat.add_assoc, Nat.add_comm 1 j] using this
    · by_cases hj : j < acc.length
      · have : (acc ++ [maskOf acc o]).getD j 0 = acc.getD j 0 := by simp [List.getElem?_append_left hj]
        rw [this] at hb
        exact hacc j k hb hl
      · by_cases hj2 : j = acc.length
        · subst hj2
          have : (acc ++ [maskOf acc o]).getD acc.length 0 = maskOf acc o := by simp
          rw [this] at hb
          rcases mask_fold acc k o.after.toList 0 hb with h | ⟨e, he, hbd, h⟩
          · simp at h
          · have hle := hs acc.length o h0 hl e (by simpa using he) hbd
            rcases h with h | h
            · rw [← h]; exact hle
            · exact hacc e.on k h hle
        · have : (acc ++ [maskOf acc o]).getD j 0 = 0 := by
            have : (acc ++ [maskOf acc o]).length ≤ j := by simp; omega
            simp [List.getElem?_eq_none this]
          rw [this] at hb
          simp at hb

theorem needs_pending {L : Array Bool} {k : Nat} (hs : Shut ops L) (hk : L.getD k true = false) : needs ops (ancL ops.toList []) L k = false := by
  cases hn : needs ops (ancL ops.toList []) L k with
  | false => rfl
  | true =>
    simp only [needs, List.any_eq_true, Bool.and_eq_true] at hn
    obtain ⟨e, _, ⟨h1, _⟩, h3⟩ := hn
    have := ancL_ok hs ops.toList [] (fun j => by simp) (fun j k hb => by simp at hb) e k h3 h1
    rw [getD_tf hk] at this
    cases this

theorem needs_mono {A : List Nat} {L : Array Bool} {i k : Nat} (h : needs ops A L k = true) : needs ops A (L.setIfInBounds i true) k = true := by
  simp only [needs, List.any_eq_true, Bool.and_eq_true] at *
  obtain ⟨e, h0, ⟨h1, h2⟩, h3⟩ := h
  exact ⟨e, h0, ⟨getD_set_true h1, h2⟩, h3⟩

theorem needs_quiet {A : List Nat} {L : Array Bool} {i k : Nat} (hq : effAt ops i = false) : needs ops A (L.setIfInBounds i true) k = needs ops A L k := by
  unfold needs
  congr 1
  funext e
  by_cases hie : i = e
  · subst hie; simp [hq]
  · rw [getD_set_ne false hie]

/-- The cells that were read hold what they held, as long as an order may still read them. -/
def SF (ops : Array Oper) (A : List Nat) (F : Held) (L : Array Bool) (w : World) : Prop :=
  ∀ x ∈ F, needs ops A L x.1 = false → Lies w x.2.1 x.2.2

def anyH (Fc : Fence) (nn : Nat) (P : Program) (ops : Array Oper) (Q : Exit → Act → World → Prop) (S : Array Bool → World → Prop) : Nat → Array Bool → Act → World → Prop
  | 0, L, a, w => Region.ready .any ops L = [] ∧ Q .normal a w
  | f + 1, L, a, w => (Region.ready .any ops L = [] → Q .normal a w) ∧
    ∀ i ∈ Region.ready .any ops L, wpOpIn Fc nn P ops Q i (fun a' w' => S (L.setIfInBounds i true) w' ∧ anyH Fc nn P ops Q S f (L.setIfInBounds i true) a' w') a w

variable {Q : Exit → Act → World → Prop}

/-- 'YieldsIf', and it is about to make no call. -/
theorem YieldsIf.wpOpIn (hFo : Fok Fc) {S : World → Prop} {Q : Exit → Act → World → Prop} {i : Nat} {o : Oper} {v : Value} {a : Act} (hi : ops[i]? = some o) (hq : ∀ c, o.op ≠ .defer c) (hy : YieldsIf P ops S o v a)
    {K : Act → World → Prop} {w : World} (hS : S w) (h : K (a.put o.dst v) w) : wpOpIn Fc nn P ops Q i K a w := by
  unfold Go.wpOpIn
  simp only [hi]
  rcases hy with ⟨hw, hv⟩ | ⟨hw, rfl⟩
  · rw [if_pos hw]
    refine ⟨fun f _ => hFo.fn f, ?_⟩
    rw [Oper.semAt_eq _ _ _ hq, hv w hS]
    exact h
  · rw [if_neg (by rw [hw]; exact Bool.false_ne_true)]
    exact ⟨fun f _ => hFo.fn f, h⟩

theorem wpOpIn_putIf (hFo : Fok Fc) {S : World → Prop} {Q : Exit → Act → World → Prop} {j : Nat} {oi oj : Oper} {v : Value} (hj : ops[j]? = some oj) (hdj : ∀ c, oj.op ≠ .defer c) (hap : oi.apart ops oj = true)
    (hsi : ∀ cs b, oi.op ≠ .select cs b) (hsj : ∀ cs b, oj.op ≠ .select cs b)
    (hQ : ∀ c a w, Q (.panic c) (a.put oi.dst v) w → Q (.panic c) a w) {K : Act → World → Prop} {a : Act} {w : World}
    (hy : YieldsIf P ops S oi v a) (h : wpOpIn Fc nn P ops Q j K (a.put oi.dst v) w) :
    wpOpIn Fc nn P ops Q j (fun a' w' => YieldsIf P ops S oi v a' ∧ K (a'.put oi.dst v) w') a w := by
  obtain ⟨h1, h2, h3⟩ := Oper.apart_spec hap
  have keep : ∀ (a : Act), YieldsIf P ops S oi v a → ∀ u, YieldsIf P ops S oi v (a.put oj.dst u) := fun a hy u =>
    hy.of_same (execOp_put oi hsi a oj.dst u h3) (wanted_put oi a oj.dst u h3)
  unfold wpOpIn at *
  simp only [hj] at *
  rw [wanted_put oj a oi.dst v h1, about_put oj w a oi.dst v h1] at h
  split
  · rename_i hw
    simp only [hw, if_true] at h
    unfold Oper.wpIn at *
    refine ⟨fun f _ => hFo.fn f, ?_⟩
    have h := h.2
    rw [Oper.semAt_eq _ _ _ hdj, execOp_put oj hsj a oi.dst v h1] at h
    rw [Oper.semAt_eq _ _ _ hdj]
    generalize (execOp a.eval oj).run P w = r at *
    cases r with
    | ok x w' =>
      cases x <;> simp only [Oper.uponIn] at h ⊢
      case value u => exact ⟨keep a hy u, by rw [← Act.put_comm a v u h2]; exact h⟩
      case skip => exact ⟨keep a hy _, by rw [← Act.put_comm a v undef h2]; exact h⟩
      case defer d =>
        refine ⟨keep _ (show YieldsIf P ops S oi v { a with defers := d :: a.defers } from YieldsIf.of_same hy rfl rfl) _, ?_⟩
        rw [← Act.put_comm _ v undef h2, ← Act.put_defers]
        exact h
      case enter f args =>
        refine ⟨h.1, CallsIn.mono h.2 fun e w'' he => ?_⟩
        cases e with
        | returned u => exact ⟨keep a hy u, by rw [← Act.put_comm a v u h2]; exact he⟩
        | panicked c => exact hQ _ _ _ he
        | outgrown => exact he
      case row row args => exact ⟨h.1, RowsIn.mono h.2 fun u w'' he => ⟨keep a hy u, by rw [← Act.put_comm a v u h2]; exact he⟩⟩
      case round l f tmps assign body =>
        refine ⟨h.1, RoundIn.mono h.2 fun e w'' he => ?_⟩
        cases e with
        | returned u => exact ⟨keep a hy u, by rw [← Act.put_comm a v u h2]; exact he⟩
        | panicked c => exact hQ _ _ _ he
        | outgrown => exact he
    | halt x w' =>
      cases x <;> simp only [Oper.uponIn] at h ⊢
      case panic u => exact hQ _ _ _ h
  · rename_i hw
    simp only [hw] at h
    exact ⟨h.1, keep a hy _, by rw [← Act.put_comm a v undef h2]; exact h.2⟩

theorem anyH_any {S : Array Bool → World → Prop} : ∀ (f : Nat) (L : Array Bool) (a : Act) (w : World), anyH Fc nn P ops Q S f L a w → wpAnyIn Fc nn P .any ops Q f L a w
  | 0, _, _, _, h => h
  | f + 1, _, _, _, h => ⟨h.1, fun i hi => wpOpIn_mono (fun a' w' h' => anyH_any f _ a' w' h'.2) (h.2 i hi)⟩

theorem anyH_mono {S S' : Array Bool → World → Prop} (hS : ∀ L w, S L w → S' L w) : ∀ (f : Nat) (L : Array Bool) (a : Act) (w : World), anyH Fc nn P ops Q S f L a w → anyH Fc nn P ops Q S' f L a w
  | 0, _, _, _, h => h
  | f + 1, _, _, _, h => ⟨h.1, fun i hi => wpOpIn_mono (fun a' w' h' => ⟨hS _ _ h'.1, anyH_mono hS f _ a' w' h'.2⟩) (h.2 i hi)⟩

theorem anyH_first (hFo : Fok Fc) (hdf : ∀ (j : Nat) (o : Oper), ops[j]? = some o → ∀ c, o.op ≠ .defer c) {S : Array Bool → World → Prop} {T : World → Prop} {i : Nat} {oi : Oper} {v : Value} (hi : ops[i]? = some oi) (hsel : Region.noSelect ops = true)
    (hQ : ∀ c a w, ¬ Q (.panic c) a w) (hS : ∀ L w, S (L.setIfInBounds i true) w ↔ S L w) (hT : ∀ L w, Shut ops L → L.getD i true = false → S L w → T w) :
    ∀ (f : Nat) (L : Array Bool) (a : Act) (w : World),
      (∀ j oj, ops[j]? = some oj → j ≠ i → L.getD j true = false → (∀ e ∈ oj.after, Region.binds .any e = true → e.on ≠ i) → oi.apart ops oj = true) →
      Shut ops L → i ∈ Region.ready .any ops L → YieldsIf P ops T oi v a → S L w →
      anyH Fc nn P ops Q S f (L.setIfInBounds i true) (a.put oi.dst v) w → anyH Fc nn P ops Q S (f + 1) L a w := by
  intro f
  induction f with
  | zero =>
    intro L a w _ hs hr hy hSw H
    refine ⟨fun h => (by rw [h] at hr; cases hr), fun j hj => ?_⟩
    by_cases hji : j = i
    · subst hji; exact YieldsIf.wpOpIn hFo hi (hdf _ oi hi) hy (hT L w hs (mem_ready.1 hr).1 hSw) ⟨(hS L w).2 hSw, H⟩
    · have := ready_mono hj hji
      rw [H.1] at this
      cases this
  | succ f ih =>
    intro L a w hfree hs hr hy hSw H
    refine ⟨fun h => (by rw [h] at hr; cases hr), fun j hj => ?_⟩
    by_cases hji : j = i
    · subst hji; exact YieldsIf.wpOpIn hFo hi (hdf _ oi hi) hy (hT L w hs (mem_ready.1 hr).1 hSw) ⟨(hS L w).2 hSw, H⟩
    · have h1 := H.2 j (ready_mono hj hji)
      obtain ⟨hjun, oj, hoj, hall⟩ := mem_ready.1 hj
      have hiun := (mem_ready.1 hr).1
      have hnot : ∀ e ∈ oj.after, Region.binds .any e = true → e.on ≠ i := fun e he hb heq => by
        have h2 := hall e he hb
        rw [heq, getD_tf hiun] at h2
        cases h2
      have h2 := wpOpIn_putIf hFo hoj (hdf j oj hoj) (hfree j oj hoj hji hjun hnot) (Region.noSelect_spec hsel i oi · · hi) (Region.noSelect_spec hsel j oj · · hoj) (fun c a w h => absurd h (hQ c _ w)) hy h1
      refine wpOpIn_mono (fun a' w' h3 => ?_) h2
      have hcomm : (L.setIfInBounds i true).setIfInBounds j true = (L.setIfInBounds j true).setIfInBounds i true := Array.setIfInBounds_comm _ _ (Ne.symm hji)
      rw [hcomm] at h3
      have hSj : S (L.setIfInBounds j true) w' := (hS _ _).1 h3.2.1
      refine ⟨hSj, ih (L.setIfInBounds j true) a' w' ?_ (hs.set hj) (ready_mono hr (Ne.symm hji)) h3.1 hSj h3.2.2⟩
      intro k ok hk hki hun hno
      refine hfree k ok hk hki ?_ hno
      by_cases hjk : j = k
      · subst hjk; exact hjun
      · rw [getD_set_ne true hjk] at hun; exact hun


theorem rcs_ok {h : Hp} {a : Addr} : ∀ (vs : List Value) (i : Nat) {K : Prop}, rcs h a vs i K → (∀ j u, vs[j]? = some u → h.cell (a.add (i + j)) = some u) ∧ K
  | [], i, K, hk => ⟨by simp, hk⟩
  | v :: vs, i, K, hk => by
    obtain ⟨h1, h2⟩ := rcs_ok vs (i + 1) hk.2
    refine ⟨fun j u hu => ?_, h2⟩
    cases j with
    | zero => simp at hu; subst hu; exact hk.1
    | succ j =>
      have := h1 j u (by simpa using hu)
      rw [show i + (j + 1) = i + 1 + j by omega]; exact this

theorem rc_ok {h : Hp} : ∀ (F : Held) {K : Prop}, rc h F K → HoldsH F h ∧ K
  | [], K, hk => ⟨(by intro x hx; cases hx), hk⟩
  | (k, a, vs) :: F, K, hk => by
    obtain ⟨h1, h2⟩ := rcs_ok vs 0 hk
    obtain ⟨h3, h4⟩ := rc_ok F h2
    refine ⟨fun x hx => ?_, h4⟩
    rcases List.mem_cons.1 hx with rfl | hx
    · intro i u hu
      have := h1 i u hu
      rwa [Nat.zero_add] at this
    · exact h3 x hx

theorem effs_mem {f : Nat → Prop} : ∀ (l : List Nat), effs f l → ∀ i ∈ l, f i
  | [], _, i, hi => by cases hi
  | [j], h, i, hi => by simp at hi; subst hi; exact h
  | j :: k :: r, h, i, hi => by
    rcases List.mem_cons.1 hi with rfl | hi
    · exact h.1
    · exact effs_mem (k :: r) h.2 i hi

theorem pickQ_ok {L : Array Bool} {i : Nat} (h : pickQ ops L = some i) : i ∈ Region.ready .any ops L ∧ (match ops[i]? with | some o => isQ o.op | none => false) = true ∧ Region.free .any ops L i = true := by
  unfold pickQ at h
  have h1 := List.mem_of_find?_eq_some h
  have h2 := List.find?_some h
  simp only [Bool.and_eq_true] at h2
  exact ⟨h1, h2⟩

theorem xcan_ok (hFo : Fok Fc) (hdf : ∀ (j : Nat) (o : Oper), ops[j]? = some o → ∀ c, o.op ≠ .defer c) (hC : OkTab P C) (hsel : Region.noSelect ops = true) (hQp : ∀ c a w, ¬ Q (.panic c) a w) {K : Env → Hp → Prop} :
    ∀ (n : Nat) (L : Array Bool) (F : Held) (e : Env) (a : Act) (w : World), B ≤ w.heap.size → Ref e a.tmps → Shut ops L →
    SF ops (ancL ops.toList []) F L w →
    (∀ e' a' w', Ref e' a'.tmps → Like a' a → Bel B w w' → K e' (absW B w') → Q .normal a' w') →
    xcan P C ops (ancL ops.toList []) n L F e (absW B w) K → anyH Fc nn P ops Q (SF ops (ancL ops.toList []) F) n L a w
  | 0, L, F, e, a, w, hB, hr, hs, hF, hQ, hk => by
    simp only [xcan] at hk
    split at hk
    · rename_i he
      exact ⟨List.isEmpty_iff.1 he, hQ e a w hr (Like.refl a) (Bel.refl B w) hk⟩
    · exact hk.elim
  | n + 1, L, F, e, a, w, hB, hr, hs, hF, hQ, hk => by
    simp only [xcan] at hk
    cases hpk : pickQ ops L with
    | some i =>
      rw [hpk] at hk
      simp only at hk
      obtain ⟨hready, hp3, hp2⟩ := pickQ_ok hpk
      cases ho : ops[i]? with
      | none => rw [ho] at hk; exact hk.elim
      | some o =>
        rw [ho] at hk hp3
        simp only at hk hp3
        have hquiet : effAt ops i = false := by simp [effAt, ho, hp3]
        have hfree := Region.free_spec (ops := ops) ho hp2
        have hSiff : ∀ (G : Held) (L : Array Bool) (w : World), SF ops (ancL ops.toList []) G (L.setIfInBounds i true) w ↔ SF ops (ancL ops.toList []) G L w := by
          intro G L w
          unfold SF
          simp only [needs_quiet hquiet]
        rcases guarded_ok hr hk with ⟨hw, e', hr', hX⟩ | ⟨hw, e', hr', hY⟩
        · obtain ⟨v, hK, hH, hrun⟩ := xval_ok (ρ := a.eval) (fun x v h => hr'.eval x v h) (fun _ => rfl) i hX
          have hF2 : SF ops (ancL ops.toList []) (heldBy i o.op (xev e') v ++ F) L w := by
            intro x hx hn
            rcases List.mem_append.1 hx with hx | hx
            · exact (hH x hx).abs
            · exact hF x hx hn
          have hkey : ∀ x ∈ heldBy i o.op (xev e') v, x.1 = i := by
            intro x hx
            unfold heldBy at hx
            split at hx
            · split at hx
              · simp at hx; rw [hx]
              · cases hx
            · cases hx
          have H := xcan_ok hFo hdf hC hsel hQp n (L.setIfInBounds i true) (heldBy i o.op (xev e') v ++ F) (e'.put o.dst v) (a.put o.dst v) w hB (hr'.put o.dst v) (hs.set hready)
            ((hSiff _ L w).2 hF2) (fun e2 a2 w2 h1 h2 h3 h4 => hQ e2 a2 w2 h1 (h2.trans (put_like a _ _)) h3 h4) hK
          have hfirst := anyH_first hFo hdf (Q := Q) (P := P) (S := SF ops (ancL ops.toList []) (heldBy i o.op (xev e') v ++ F)) (T := HoldsW (heldBy i o.op (xev e') v)) ho hsel hQp (hSiff _)
            (fun L' w' hs' hi' hS' x hx => hS' x (List.mem_append_left _ hx) (by rw [hkey x hx]; exact needs_pending hs' hi'))
            n L a w hfree hs hready (.inl ⟨hw, fun w' hw' => hrun o w' rfl hw'⟩) hF2 H
          exact anyH_mono (fun L' w' hS' x hx hn => hS' x (List.mem_append_right _ hx) hn) _ L a w hfirst
        · have H := xcan_ok hFo hdf hC hsel hQp n (L.setIfInBounds i true) F (e'.put o.dst undef) (a.put o.dst undef) w hB (hr'.put o.dst undef) (hs.set hready)
            ((hSiff _ L w).2 hF) (fun e2 a2 w2 h1 h2 h3 h4 => hQ e2 a2 w2 h1 (h2.trans (put_like a _ _)) h3 h4) hY
          exact anyH_first hFo hdf (Q := Q) (P := P) (S := SF ops (ancL ops.toList []) F) (T := fun _ => True) ho hsel hQp (hSiff _)
            (fun _ _ _ _ _ => trivial) n L a w hfree hs hready (.inr ⟨hw, rfl⟩) hF H
    | none =>
      rw [hpk] at hk
      simp only at hk
      cases hrd : Region.ready .any ops L with
      | nil =>
        rw [hrd] at hk
        exact ⟨fun _ => hQ e a w hr (Like.refl a) (Bel.refl B w) hk, fun i hi => by rw [hrd] at hi; cases hi⟩
      | cons i0 rs =>
        rw [hrd] at hk
        simp only at hk
        refine ⟨fun h => (by rw [hrd] at h; cases h), fun j hready => ?_⟩
        have hk := effs_mem _ hk j (by rw [← hrd]; exact hready)
        cases ho : ops[j]? with
        | none => rw [ho] at hk; exact hk.elim
        | some o =>
          rw [ho] at hk
          simp only at hk
          unfold wpOpIn
          simp only [ho]
          rcases guarded_ok hr hk with ⟨hw, e', hr', hX⟩ | ⟨hw, e', hr', hY⟩
          · rw [if_pos hw]
            refine (xop_ok (ρ := a.eval) hC (fun x v h => hr'.eval x v h) (fun _ => rfl) hB hX).wpIn hFo (xop_defer hX) fun v w' hb hK => ?_
            obtain ⟨hH, hK⟩ := rc_ok _ hK
            have hF' : SF ops (ancL ops.toList []) F (L.setIfInBounds j true) w' := by
              intro x hx hn
              exact (hH x (by simp [hx, hn])).abs
            exact ⟨hF', xcan_ok hFo hdf hC hsel hQp n (L.setIfInBounds j true) F (e'.put o.dst v) (a.put o.dst v) w' (Nat.le_trans hB hb.size) (hr'.put o.dst v) (hs.set hready) hF'
              (fun e2 a2 w2 h1 h2 h3 h4 => hQ e2 a2 w2 h1 (h2.trans (put_like a _ _)) (hb.trans h3) h4) hK⟩
          · rw [if_neg (by rw [hw]; exact Bool.false_ne_true)]
            have hF' : SF ops (ancL ops.toList []) F (L.setIfInBounds j true) w := by
              intro x hx hn
              refine hF x hx ?_
              cases hn' : needs ops (ancL ops.toList []) L x.1 with
              | false => rfl
              | true => rw [needs_mono hn'] at hn; cases hn
            exact ⟨fun f _ => hFo.fn f, hF', xcan_ok hFo hdf hC hsel hQp n (L.setIfInBounds j true) F (e'.put o.dst undef) (a.put o.dst undef) w hB (hr'.put o.dst undef) (hs.set hready) hF'
              (fun e2 a2 w2 h1 h2 h3 h4 => hQ e2 a2 w2 h1 (h2.trans (put_like a _ _)) h3 h4) hY⟩

theorem noDefer_mem : ∀ (l : List Oper), noDefer l = true → ∀ o ∈ l, ∀ c, o.op ≠ .defer c
  | [], _, o, ho, _ => by cases ho
  | x :: r, h, o, ho, c => by
    unfold noDefer at h
    rcases List.mem_cons.1 ho with rfl | ho
    · intro hc
      rw [hc] at h
      cases h
    · split at h
      · cases h
      · exact noDefer_mem r h o ho c

theorem xregion_ok (hFo : Fok Fc) (hm : P.follows .mixedOrders = true) (hC : OkTab P C) (hQp : ∀ c a w, ¬ Q (.panic c) a w) {K : Env → Hp → Prop} {id : Nat} {draw : Bool} {e : Env} {a : Act} {w : World} (hB : B ≤ w.heap.size) (hr : Ref e a.tmps)
    (hQ : ∀ e' a' w', Ref e' a'.tmps → Like a' a → Bel B w w' → K e' (absW B w') → Q .normal a' w')
    (hk : xregion P C ops draw e (absW B w) K) : (Code.region id ops draw).wpIn Fc nn P Q a w := by
  cases draw with
  | false => exact wpIn_region_list (xops_ok hFo hC ops.toList e a w hB hr hQ hk)
  | true =>
    simp only [xregion] at hk
    split at hk
    case h_2 => exact hk.elim
    rename_i hsel
    have hshut : Shut ops (Array.replicate ops.size false) := by
      intro j oj _ hl
      simp [Array.getElem?_replicate] at hl
      split at hl <;> simp at hl
    refine wpIn_region_any hm ?_
    rw [Bool.and_eq_true] at hsel
    obtain ⟨hsel, hnd⟩ := hsel
    have hdf : ∀ (j : Nat) (o : Oper), ops[j]? = some o → ∀ c, o.op ≠ .defer c := fun j o ho => noDefer_mem _ hnd o (by simpa using Array.mem_of_getElem? ho)
    have H := xcan_ok (nn := nn) (B := B) hFo hdf hC hsel hQp _ (Array.replicate ops.size false) [] e a { w with drawn := w.drawn + 1 } hB hr hshut (by intro x hx; cases hx)
      (fun e' a' w' h1 h2 h3 h4 => hQ e' a' w' h1 h2 ⟨⟨h3.b.os, h3.b.tape, h3.b.output, h3.b.size, h3.b.block⟩, h3.d⟩ h4) hk
    exact anyH_any _ _ _ _ H

end
end Go.Hx
