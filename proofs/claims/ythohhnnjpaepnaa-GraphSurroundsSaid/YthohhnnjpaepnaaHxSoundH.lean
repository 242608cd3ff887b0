/- Code and functions: if the condition holds over the abstract heap, the call goes through. No condition. -/
import Derived.Test.YthohhnnjpaepnaaHxSoundG
import Derived.Scope
namespace Go.Hx
set_option linter.unusedSimpArgs false
set_option linter.unusedVariables false
open Go.RowKit

/-! ### Joins: what is carried -/

theorem lproj_ok : ∀ (l : LK) (v : Value) (K : l.T → Prop), l.proj v K → ∃ x, v = l.emb x ∧ K x
  | .bool, v, K, h => by cases v <;> first | exact h.elim | exact ⟨_, rfl, h⟩
  | .int k, v, K, h => by
    cases v <;> first | exact h.elim | skip
    rename_i j n
    simp only [LK.proj] at h
    cases hjk : ieq j k with
    | false => rw [hjk] at h; exact h.elim
    | true => rw [hjk] at h; have := ieq_eq hjk; subst this; exact ⟨n, rfl, h⟩
  | .ptr, v, K, h => by cases v <;> first | exact h.elim | exact ⟨_, rfl, h⟩
  | .slice, v, K, h => by
    cases v <;> first | exact h.elim | skip
    rename_i a n c
    exact ⟨⟨a, n, c⟩, rfl, h⟩
  | .map, v, K, h => by cases v <;> first | exact h.elim | exact ⟨_, rfl, h⟩
  | .any, v, K, h => by cases v <;> exact ⟨_, rfl, h⟩
  | .adr, v, K, h => by
    cases v <;> first | exact h.elim | skip
    rename_i p
    cases p with
    | none => exact h.elim
    | some a => exact ⟨a, rfl, h⟩

theorem projs_ok : ∀ (ls : List LK) (vs : List Value) (K : LKs ls → Prop), projs ls vs K → ∃ x, vs = embs ls x ∧ K x
  | [], [], K, h => ⟨(), rfl, h⟩
  | [], _ :: _, K, h => h.elim
  | l :: r, [], K, h => h.elim
  | l :: r, v :: vs, K, h => by
    obtain ⟨x, rfl, h1⟩ := lproj_ok l v _ h
    obtain ⟨y, rfl, h2⟩ := projs_ok r vs _ h1
    exact ⟨(x, y), rfl, h2⟩

theorem tproj_ok : ∀ (t : Ty) (o : Option Value) (K : t.T → Prop), t.proj o K → ∃ x, o = some (t.emb x) ∧ K x
  | .sc l, o, K, h => by
    cases o with
    | none => exact h.elim
    | some v => obtain ⟨x, rfl, hx⟩ := lproj_ok l v K h; exact ⟨x, rfl, hx⟩
  | .ag ls, o, K, h => by
    cases o with
    | none => exact h.elim
    | some v =>
      cases v <;> first | exact h.elim | skip
      rename_i vs
      obtain ⟨x, hx, hK⟩ := projs_ok ls vs.toList K h
      refine ⟨x, ?_, hK⟩
      have : vs = (embs ls x).toArray := by apply Array.ext'; simpa using hx
      rw [this]; rfl

/-- What is carried is what the frame holds. -/
theorem proj_ok {e0 : Env} {M : List Nat} : ∀ (L : Lv) (e : Env) (t : Array Value) (K : Tup L → Prop), Ref e t → Agr M e0 e → proj L e K → ∃ s, K s ∧ Ref (mk e0 M L s) t
  | [], e, t, K, hr, ha, h => by
    refine ⟨(), h, by simp only [mk, length_ovr]; rw [← hr.1, ha.1], fun i v hv => ?_⟩
    simp only [mk, get_ovr, Nat.zero_add] at hv
    by_cases hi : i ∈ M
    · rw [if_pos hi] at hv; cases hv
    · rw [if_neg hi] at hv
      exact hr.2 i v (by rw [ha.2 i hi]; exact hv)
  | x :: r, e, t, K, hr, ha, h => by
    simp only [proj] at h
    obtain ⟨y, hy, h1⟩ := tproj_ok x.2 _ _ h
    obtain ⟨s, hs, hr'⟩ := proj_ok r e t _ hr ha h1
    refine ⟨(y, s), hs, by rw [length_mk, ← hr.1, ha.1], fun i v hv => ?_⟩
    have hput : (mk e0 M (x :: r) (y, s)) = Env.put (mk e0 M r s) (some x.1) (x.2.emb y) := rfl
    rw [hput, Env.get_put] at hv
    by_cases hi : i = x.1 ∧ x.1 < (mk e0 M r s).length
    · rw [if_pos hi] at hv
      obtain ⟨rfl, _⟩ := hi
      cases hv
      exact hr.2 x.1 _ hy
    · rw [if_neg hi] at hv; exact hr'.2 i v hv

/-! ### Marks and records -/

def mark (D : Nat) : Deferred := { target := .collected D, args := #[] }

/-- What is deferred: marks of ranges over functions, whose blocks lie. -/
def Mk (w0 w : World) (a : Act) : Prop := ∃ Ds : List Nat, a.defers = Ds.map mark ∧ Ds.Nodup ∧ ∀ D ∈ Ds, w0.heap.size ≤ D ∧ w.heap[D]? = some (Obj.deferred (some []))

theorem Mk.nil {w0 w : World} {a : Act} (h : a.defers = []) : Mk w0 w a := ⟨[], by simpa using h, List.nodup_nil, fun D hD => by cases hD⟩

theorem Mk.bel {w0 w w' : World} {a a' : Act} {B : Nat} (h : Mk w0 w a) (hb : Bel B w w') (ha : a'.defers = a.defers) : Mk w0 w' a' := by
  obtain ⟨Ds, h1, h2, h3⟩ := h
  exact ⟨Ds, ha.trans h1, h2, fun D hD => ⟨(h3 D hD).1, hb.d D (h3 D hD).2⟩⟩

theorem absB_lp {B b : Nat} {o : Obj} {r : Loop} (h : absB B b o = some (.lp r)) : B ≤ b ∧ o = .loop r := by
  unfold absB at h
  split at h
  · cases h
  · refine ⟨by omega, ?_⟩
    unfold absO at h
    split at h
    · split at h <;> cases h
    · cases h
    · cases h; rfl
    · cases h

theorem blk_lp {B l : Nat} {w : World} {r : Loop} (h : (absW B w).blk l = some (.lp r)) : B ≤ l ∧ w.heap[l]? = some (.loop r) := by
  simp only [absW, Option.bind_eq_some_iff] at h
  obtain ⟨o, ho, hb⟩ := h
  obtain ⟨h1, rfl⟩ := absB_lp hb
  exact ⟨h1, ho⟩

theorem putObj_lp {B l : Nat} {w : World} {r r' : Loop} (hB : B ≤ l) (h : w.heap[l]? = some (.loop r)) : absW B (w.putObj l (.loop r')) = (absW B w).upd l (some (.lp r')) :=
  upd_absW hB (Array.getElem?_eq_some_iff.1 h).1 _

theorem Bel.putObj {B l : Nat} {w0 w : World} {r : Loop} (hb : Bel B w0 w) (hB : B ≤ l) (h : w.heap[l]? = some (.loop r)) (o : Obj) : Bel B w0 (w.putObj l o) := by
  refine hb.trans ⟨⟨rfl, rfl, rfl, by simp, fun k hk => World.putObj_heap_other (by omega)⟩, fun D hD => ?_⟩
  have hne : D ≠ l := fun e => by subst e; rw [h] at hD; cases hD
  rw [World.putObj_heap_other hne]
  exact hD

theorem putObj_drop {B D : Nat} {w : World} (hB : B ≤ D) (h : w.heap[D]? = some (Obj.deferred (some []))) : absW B (w.putObj D (.deferred none)) = absW B w := by
  have hl := (Array.getElem?_eq_some_iff.1 h).1
  refine (upd_absW (w := w) hB hl (.deferred none)).trans ?_
  apply Hp.ext'
  · rfl
  · intro b
    simp only [Hp.upd]
    by_cases hb : b = D
    · subst hb
      have : ¬ b < B := by omega
      simp [absW, h, absB, this, absO]
    · rw [if_neg hb]

/-! ### Code -/

/-- A condition on exits, of frames and worlds. -/
def lift (B N : Nat) (w0 : World) (Q : Post) : Exit → Act → World → Prop
  | .panic _, _, _ => False
  | .outgrown, _, _ => False
  | .goto _, _, _ => False
  | x, a, w => Mk w0 w a ∧ a.tmps.size = N ∧ Bel B w0 w ∧ ∃ e, Ref e a.tmps ∧ Q x e (absW B w)

theorem lift_panic {B N : Nat} {w0 : World} {Q : Post} : ∀ c a w, ¬ lift B N w0 Q (.panic c) a w := fun _ _ _ h => h

theorem lift_then {B N : Nat} {w0 : World} {Q : Post} {n : Env → Hp → Prop} {M : Act → World → Prop}
    (hn : ∀ e a w, Mk w0 w a → a.tmps.size = N → Bel B w0 w → Ref e a.tmps → n e (absW B w) → M a w) :
    ∀ x a w, lift B N w0 (xthen n Q) x a w → Exit.then M (lift B N w0 Q) x a w := by
  intro x a w h
  cases x with
  | normal => obtain ⟨h1, h2, h3, e, h4, h5⟩ := h; exact hn e a w h1 h2 h3 h4 h5
  | _ => exact h

theorem lift_in {B N : Nat} {w0 : World} {Q : Post} {id : Nat} : ∀ x a w, lift B N w0 (xin id Q) x a w → Exit.inBlock id (lift B N w0 Q) x a w := by
  intro x a w h
  cases x with
  | exit j =>
    obtain ⟨h1, h2, h3, e, h4, h5⟩ := h
    simp only [xin] at h5
    simp only [Exit.inBlock]
    cases hb : Nat.beq j id with
    | true => rw [hb] at h5; rw [if_pos (Nat.eq_of_beq_eq_true hb)]; exact ⟨h1, h2, h3, e, h4, h5⟩
    | false =>
      rw [hb] at h5
      have : j ≠ id := fun hh => by subst hh; rw [Nat.beq_refl] at hb; cases hb
      rw [if_neg this]; exact ⟨h1, h2, h3, e, h4, h5⟩
  | _ => exact h

theorem lift_noGoto {B N : Nat} {w0 : World} {Q : Post} : ∀ x a w, lift B N w0 Q x a w → Exit.noGoto (lift B N w0 Q) x a w := by
  intro x a w h
  cases x <;> exact h

theorem least (p : Nat → Prop) (h : ∃ n, p n) : ∃ n, p n ∧ ∀ m, p m → n ≤ m := by
  obtain ⟨n, hn⟩ := h
  induction n using Nat.strongRecOn with
  | _ n ih =>
    by_cases hm : ∃ m, m < n ∧ p m
    · obtain ⟨m, hlt, hpm⟩ := hm; exact ih m hlt hpm
    · exact ⟨n, hn, fun m hpm => Nat.le_of_not_lt fun hlt => hm ⟨m, hlt, hpm⟩⟩

open Classical in
/-- A loop of which, at each head, some number of rounds is enough. -/
theorem wpIn_loop_iter {F : Fence} {m : Nat} {P : Program} {c : Code} {Q : Exit → Act → World → Prop} {a : Act} {w : World} (I : Nat → Act → World → Prop) (h0 : ∃ n, I n a w)
    (round : ∀ n a w, I n a w → c.wpIn F m P (Exit.then (fun a' w' => ∃ m, m < n ∧ I m a' w') Q) a w) : (Code.loop c).wpIn F m P Q a w := by
  refine wpIn_loop (fun a w => ∃ n, I n a w) (fun a w => if h : ∃ n, I n a w then Classical.choose (least (fun n => I n a w) h) else 0) h0 ?_
  intro a w h
  obtain ⟨hf, _⟩ := Classical.choose_spec (least (fun n => I n a w) h)
  refine Go.wpIn_mono (round _ a w hf) ?_
  intro x a' w' hx
  cases x with
  | normal =>
    obtain ⟨m, hm, hI⟩ := hx
    have hex : ∃ n, I n a' w' := ⟨m, hI⟩
    refine ⟨hex, ?_⟩
    simp only [hex, h, dif_pos]
    exact Nat.lt_of_le_of_lt ((Classical.choose_spec (least (fun n => I n a' w') hex)).2 m hI) hm
  | _ => exact hx

section
variable {P : Program} {b : Frame} {a : Act} {k : List Item} {cs : List Frame} {w : World} {Q : Exit → Act → World → Prop} {F : Fence} {n : Nat}

theorem stepR_scope {c : Code} : step P (lone (b.atR a (.code (.scope c) :: k)) cs w) = .next (lone (b.atR a (.code c :: .inScope c :: k)) cs w) :=
  step_lone_go (by simp [stepG, stepG.exec, Frame.atR])
theorem stepR_inScope {c : Code} : step P (lone (b.atR a (.inScope c :: k)) cs w) = .next (lone (b.atR a k) cs w) :=
  step_lone_go (by simp [stepG, stepG.exec, Frame.atR])

theorem wpIn_scope_straight {c : Code} (h : c.wpIn F n P (Exit.noGoto Q) a w) : (Code.scope c).wpIn F n P Q a w := by
  intro b k cs hro hb hr
  have h0 : (lone (b.atR a (.code (.scope c) :: k)) cs w).fenced P F := fenced_calm hb hr rfl
  obtain ⟨e, a₁, w₁, hq, harr⟩ := h b (.inScope c :: k) cs hro hb hr
  cases e with
  | normal => exact ⟨.normal, a₁, w₁, hq, .head h0 stepR_scope (StepsIn.trans harr (.one (fenced_calm hb hr rfl) stepR_inScope))⟩
  | exit id =>
    have hx : exitTo id (.inScope c :: k) = exitTo id k := by simp [exitTo]
    exact ⟨.exit id, a₁, w₁, hq, fun k' hk => .head h0 stepR_scope (harr.1 k' (by rw [hx]; exact hk)),
      fun hr' hk => let ⟨k₁, h1, h2⟩ := harr.2 hr' (by rw [hx]; exact hk); ⟨k₁, h1, .head h0 stepR_scope h2⟩⟩
  | goto l => exact hq.elim
  | ret => exact ⟨_, a₁, w₁, hq, .of_steps (.one h0 stepR_scope) harr⟩
  | panic ch => exact ⟨_, a₁, w₁, hq, .of_steps (.one h0 stepR_scope) harr⟩
  | outgrown => exact ⟨_, a₁, w₁, hq, .of_steps (.one h0 stepR_scope) harr⟩
end

theorem sub_ref {e : Env} {t : Array Value} {c : Operand} {b : Bool} (hr : Ref e t) (hc : xev e c = some (.bool b)) : Ref (sub e c b) t := by
  cases c with
  | tmp d => exact hr.same hc
  | _ => exact hr

/-! ### Iterators -/

def OkIt (P : Program) (g : Nat) (it : YT → CT) : Prop := callable P g = true ∧ (∀ Y, MonoY Y → MonoC (it Y)) ∧ ∀ Y, OkY P Y → MonoY Y → OkFn P g (it Y)

def OkTabI (P : Program) (T : ITab) : Prop := ∀ g it, (g, it) ∈ T → OkIt P g it

theorem OkTabI.nil (P : Program) : OkTabI P [] := fun _ _ h => by cases h
theorem OkTabI.cons {P : Program} {T : ITab} {g : Nat} {it : YT → CT} (h : OkIt P g it) (ht : OkTabI P T) : OkTabI P ((g, it) :: T) := by
  intro g' it' hm
  rcases List.mem_cons.1 hm with h' | h'
  · cases h'; exact h
  · exact ht _ _ h'
theorem OkTabI.mono {P : Program} {T : ITab} (h : OkTabI P T) : MonoT T := fun g it hm => (h g it hm).2.1

theorem itl_mem : ∀ (T : ITab) (f : Nat) (Y : YT) (vs : List Value) (h : Hp) (K : Value → Hp → Prop), itl T f Y vs h K → ∃ it, (f, it) ∈ T ∧ it Y vs h K
  | [], f, Y, vs, h, K, hk => hk.elim
  | (g, c) :: r, f, Y, vs, h, K, hk => by
    simp only [itl] at hk
    cases hb : Nat.beq f g with
    | true =>
      rw [hb] at hk
      have := Nat.eq_of_beq_eq_true hb
      subst this
      exact ⟨c, by simp, hk⟩
    | false =>
      rw [hb] at hk
      obtain ⟨d, hd, hk'⟩ := itl_mem r f Y vs h K hk
      exact ⟨d, by simp [hd], hk'⟩

/-- Yield's arguments in the round's frame. -/
theorem projA_ok : ∀ (L : Lv) (vs : List Value) (ps : List Nat) (e : Env) (t : Array Value) (K : Tup L → Prop), lvPs L ps = true → Ref e t → projA L vs K →
    vs.length = ps.length ∧ ∃ s, K s ∧ Ref (putA e L s) ((ps.zip vs).foldl (fun t (p, v) => t.setIfInBounds p v) t)
  | [], [], [], e, t, K, _, hr, h => ⟨rfl, (), h, hr⟩
  | [], _ :: _, _, _, _, _, _, _, h => h.elim
  | _ :: _, [], _, _, _, _, _, _, h => h.elim
  | [], [], _ :: _, _, _, _, hl, _, _ => by cases hl
  | _ :: _, _ :: _, [], _, _, _, hl, _, _ => by cases hl
  | x :: r, v :: vs, p :: ps, e, t, K, hl, hr, h => by
    simp only [lvPs, Bool.and_eq_true] at hl
    have hp := Nat.eq_of_beq_eq_true hl.1
    unfold projA at h
    obtain ⟨y, hy, h1⟩ := tproj_ok x.2 _ _ h
    cases hy
    have hr' : Ref (e.put (some x.1) (x.2.emb y)) (t.setIfInBounds p (x.2.emb y)) := by
      have := Ref.put (a := { tmps := t, defers := [] }) hr (some x.1) (x.2.emb y)
      simpa [Act.put, hp] using this
    obtain ⟨h2, s, hs, hR⟩ := projA_ok r vs ps _ _ _ hl.2 hr' h1
    exact ⟨by simp [h2], (y, s), hs, by simpa [putA] using hR⟩

theorem zip_foldl (ps : Array Tmp) (vs : List Value) (t : Array Value) :
    (ps.zip vs.toArray).foldl (fun t (p, v) => t.setIfInBounds p v) t = (ps.toList.zip vs).foldl (fun t (p, v) => t.setIfInBounds p v) t := by
  rw [← Array.foldl_toList]
  simp

theorem xcode_ok {P : Program} {C : CTab} (hm : P.follows .mixedOrders = true) (hC : OkTab P C) :
    ∀ (c : Code) (F : Fence) (m : Nat) (T : ITab) (B N : Nat) (w0 : World) (an : An) (Q : Post) (e : Env) (a : Act) (w : World), Fok F → OkTabI P T → (T = [] ∨ F = Fence.wide) → B ≤ w0.heap.size →
    Mk w0 w a → a.tmps.size = N → Bel B w0 w → Ref e a.tmps → xcode P C T c an Q e (absW B w) → c.wpIn F m P (lift B N w0 Q) a w := by
  intro c
  induction c with
  | skip => intro F m T B N w0 an Q e a w hF hT hTF hB hd hN hb hr hk; exact wpIn_skip ⟨hd, hN, hb, e, hr, hk⟩
  | label l => intro F m T B N w0 an Q e a w hF hT hTF hB hd hN hb hr hk; exact wpIn_label ⟨hd, hN, hb, e, hr, hk⟩
  | exit id => intro F m T B N w0 an Q e a w hF hT hTF hB hd hN hb hr hk; exact wpIn_exit ⟨hd, hN, hb, e, hr, hk⟩
  | ret => intro F m T B N w0 an Q e a w hF hT hTF hB hd hN hb hr hk; exact wpIn_ret ⟨hd, hN, hb, e, hr, hk⟩
  | region id ops draw =>
    intro F m T B N w0 an Q e a w hF hT hTF hB hd hN hb hr hk
    exact xregion_ok hF hm hC lift_panic (Nat.le_trans hB hb.size) hr (fun e' a' w' h1 h2 h3 h4 => ⟨hd.bel h3 h2.1, h2.2.trans hN, hb.trans h3, e', h1, h4⟩) hk
  | seq x y ihx ihy =>
    intro F m T B N w0 an Q e a w hF hT hTF hB hd hN hb hr hk
    refine wpIn_seq ?_
    simp only [xcode] at hk
    split at hk
    · refine Go.wpIn_mono (ihx F m T B N w0 an.l _ e a w hF hT hTF hB hd hN hb hr hk) ?_
      exact lift_then fun e' a' w' h1 h2 h3 h4 h5 => ihy F m T B N w0 an.r Q e' a' w' hF hT hTF hB h1 h2 h3 h4 h5
    · rename_i L hL
      split at hk
      case h_2 => exact hk.elim
      have hk' := xcode_mono hC.mono x T hT.mono an.l _ (xthen (fun e' h' => Agr (mods x) e e' ∧ proj L e' fun s => xcode P C T y an.r Q (mk e (mods x) L s) h') Q) e _
        (fun z e' h' hag hq => by cases z <;> first | exact ⟨hag, hq⟩ | exact hq) hk
      refine Go.wpIn_mono (ihx F m T B N w0 an.l _ e a w hF hT hTF hB hd hN hb hr hk') ?_
      refine lift_then fun e' a' w' h1 h2 h3 h4 h5 => ?_
      obtain ⟨s, hs, hr'⟩ := proj_ok L e' a'.tmps _ h4 h5.1 h5.2
      exact ihy F m T B N w0 an.r Q _ a' w' hF hT hTF hB h1 h2 h3 hr' hs
  | cond c x y ihx ihy =>
    intro F m T B N w0 an Q e a w hF hT hTF hB hd hN hb hr hk
    simp only [xcode] at hk
    split at hk
    case h_2 => exact hk.elim
    rename_i b hc
    have hev : a.eval c = .bool b := hr.eval c _ hc
    cases b with
    | true => exact wpIn_cond_true hev (ihx F m T B N w0 an.l Q _ a w hF hT hTF hB hd hN hb (sub_ref hr hc) hk)
    | false => exact wpIn_cond_false hev (ihy F m T B N w0 an.r Q _ a w hF hT hTF hB hd hN hb (sub_ref hr hc) hk)
  | block id x ih =>
    intro F m T B N w0 an Q e a w hF hT hTF hB hd hN hb hr hk
    exact wpIn_block (Go.wpIn_mono (ih F m T B N w0 an.l _ e a w hF hT hTF hB hd hN hb hr hk) lift_in)
  | loop x ih =>
    intro F m T B N w0 an Q e a w hF hT hTF hB hd hN hb hr hk
    simp only [xcode] at hk
    split at hk
    · exact hk.elim
    · rename_i L hL
      split at hk
      case h_2 => exact hk.elim
      rename_i hin
      obtain ⟨s, ⟨n, hn⟩, hr'⟩ := proj_ok L e a.tmps _ hr (Agr.refl (mods x) e) hk
      refine wpIn_loop_iter (fun n a w => Mk w0 w a ∧ a.tmps.size = N ∧ Bel B w0 w ∧ ∃ s : Tup L, Ref (mk e (mods x) L s) a.tmps ∧
        iter (fun K (s : Tup L) h => xcode P C T x an.l (xthen (fun e' h' => proj L e' fun s' => K s' h') Q) (mk e (mods x) L s) h) n s (absW B w)) ⟨n, hd, hN, hb, s, hr', hn⟩ ?_
      intro n a' w' hI
      obtain ⟨h1, h2, h3, s', h4, h5⟩ := hI
      cases n with
      | zero => exact h5.elim
      | succ n =>
        simp only [iter] at h5
        have h5' := xcode_mono hC.mono x T hT.mono an.l _ (xthen (fun e' h' => Agr (mods x) e e' ∧ proj L e' fun s' => iter (fun K (s : Tup L) h => xcode P C T x an.l (xthen (fun e' h' => proj L e' fun s' => K s' h') Q) (mk e (mods x) L s) h) n s' h') Q) _ _
          (fun z e' h' hag hq => by cases z <;> first | exact ⟨(agr_mk e (mods x) L s' hin).trans hag, hq⟩ | exact hq) h5
        refine Go.wpIn_mono (ih F m T B N w0 an.l _ _ a' w' hF hT hTF hB h1 h2 h3 h4 h5') ?_
        refine lift_then fun e' a2 w2 g1 g2 g3 g4 g5 => ?_
        obtain ⟨s2, hs2, hr2⟩ := proj_ok L e' a2.tmps _ g4 g5.1 g5.2
        exact ⟨n, Nat.lt_succ_self n, g1, g2, g3, s2, hr2, hs2⟩
  | scope x ih => intro F m T B N w0 an Q e a w hF hT hTF hB hd hN hb hr hk; exact wpIn_scope_straight (Go.wpIn_mono (ih F m T B N w0 an.l Q e a w hF hT hTF hB hd hN hb hr hk) lift_noGoto)
  | rangeFunc g ps asn bd iha ihb =>
    intro F m T B N w0 an Q e a w hF hT hTF hB hd hN hb hr hk
    simp only [xcode] at hk
    split at hk
    case h_2 => exact hk.elim
    rename_i gf fi cap L hg hL
    split at hk
    case h_2 => exact hk.elim
    rename_i hps
    have hFw : F = Fence.wide := by
      rcases hTF with h | h
      · subst h; exact (hk default).elim
      · exact h
    subst hFw
    have hwB : B ≤ w.heap.size := Nat.le_trans hB hb.size
    have hev : a.eval g = .func (.func gf) fi cap := hr.eval g _ hg
    refine wpIn_rangeFunc ?_
    intro fn hfn
    obtain ⟨rec, hrec⟩ : ∃ rec : Loop, rec = { state := .ready, pending := none, fn, tmps := a.tmps, params := ps, assign := asn, body := bd, defers := w.heap.size } := ⟨_, rfl⟩
    obtain ⟨W1, hW1⟩ : ∃ W1, (w.alloc (.deferred (some []))).alloc (.loop rec) = W1 := ⟨_, rfl⟩
    have habs : absW B W1 = ((absW B w).pushB none).pushB (some (.lp rec)) := by
      rw [← hW1, pushB_absW (by simp; omega), pushB_absW hwB]
      rfl
    have hk := hk rec
    rw [← habs] at hk
    obtain ⟨it, hit, hk⟩ := itl_mem _ _ _ _ _ _ hk
    obtain ⟨hcb, hmono, hok⟩ := hT _ _ hit
    have hbW1 : Bel B w0 W1 := by rw [← hW1]; exact (hb.alloc hwB _).alloc (by simp; omega) _
    have hD1 : W1.heap[w.heap.size]? = some (Obj.deferred (some [])) := by
      rw [← hW1]; exact (Below.heap_alloc _ _ _ (by simp)).trans (World.alloc_heap_new w _)
    have hMY : MonoY (ylam fun l as h K => projA L as fun s => lpIs h l rec
            (xcode P C [] asn an.l (xthen (fun e' h' => lpIs h' l rec (lpSet h' l (bsy rec) fun h' => xcode P C [] bd an.r (xround l rec K) e' h')) (fun _ _ _ => False)) (putA e L s) h)) := by
      refine ylam_mono fun l as h K K' hK hk => ?_
      refine projA_mono _ as (fun s hs => ⟨hs.1, ?_⟩) hk
      refine xcode_mono hC.mono asn [] MonoT.nil an.l _ _ _ _ (fun x e' h' _ hq => ?_) hs.2
      cases x with
      | normal => exact ⟨hq.1, xcode_mono hC.mono bd [] MonoT.nil an.r _ _ _ _ (fun x e' h' _ hq => xround_mono hK hq) hq.2⟩
      | _ => exact hq.elim
    have hOY : OkY P (ylam fun l as h K => projA L as fun s => lpIs h l rec
            (xcode P C [] asn an.l (xthen (fun e' h' => lpIs h' l rec (lpSet h' l (bsy rec) fun h' => xcode P C [] bd an.r (xround l rec K) e' h')) (fun _ _ _ => False)) (putA e L s) h)) := by
      intro B' w' l vs K hB' hy
      have hy : projA L vs _ := hy
      obtain ⟨hlen, s, ⟨hl, hs⟩, hr'⟩ := projA_ok L vs ps.toList e a.tmps _ hps hr hy
      obtain ⟨hBl, hl⟩ := blk_lp hl
      refine ⟨fn, _, asn, bd, ?_, roundIn_of_wpIn (tmps := (ps.zip vs.toArray).foldl (fun t (p, v) => t.setIfInBounds p v) a.tmps) trivial ?_⟩
      · have := run_yield (P := P) (args := vs.toArray) hl (by rw [hrec]; simpa using hlen)
        rw [this, hrec]
      · rw [zip_foldl]
        refine Go.wpIn_mono (iha (Fence.wide.inRound l) 0 [] B' _ w' an.l _ _ _ w' (.round l) (OkTabI.nil P) (.inl rfl) hB' (Mk.nil rfl) rfl (Bel.refl B' w') hr' hs) ?_
        intro x a1 w1 hx
        cases x with
        | normal =>
          obtain ⟨h1, h2, h3, e1, h4, hl1, h5⟩ := hx
          obtain ⟨_, hl1⟩ := blk_lp hl1
          refine ⟨_, run_beginRound hl1 (by rw [hrec]), ?_⟩
          have hb1 : Bel B' w' (w1.putObj l (.loop { rec with state := .busy })) := h3.putObj hBl hl1 _
          refine Go.wpIn_mono (ihb (Fence.wide.inRound l) 0 [] B' _ w' an.r _ e1 a1 _ (.round l) (OkTabI.nil P) (.inl rfl) hB' ?_ h2 hb1 h4 (by rw [putObj_lp hBl hl1]; exact h5)) ?_
          · obtain ⟨Ds, g1, g2, g3⟩ := h1
            exact ⟨Ds, g1, g2, fun D hD => ⟨(g3 D hD).1, (Bel.putObj (Bel.refl B' w1) hBl hl1 _).d D (g3 D hD).2⟩⟩
          intro x a2 w2 hx
          cases x with
          | normal =>
            obtain ⟨_, _, g3, e2, _, gl, g5⟩ := hx
            obtain ⟨_, gl⟩ := blk_lp gl
            refine ⟨_, _, run_endRound none gl, true, rfl, g3.putObj hBl gl _, ?_⟩
            rw [putObj_lp hBl gl]
            have he : ({ bsy rec with state := if (none : Option Code).isNone then .ready else .done, pending := none } : Loop) = rec := by rw [hrec]; rfl
            rw [he]
            exact g5
          | ret =>
            obtain ⟨_, _, g3, e2, _, gl, g5⟩ := hx
            obtain ⟨_, gl⟩ := blk_lp gl
            refine ⟨_, _, run_endRound (some .ret) gl, false, rfl, g3.putObj hBl gl _, ?_⟩
            rw [putObj_lp hBl gl]
            exact g5
          | exit id =>
            obtain ⟨_, _, g3, e2, _, gl, g5⟩ := hx
            obtain ⟨_, gl⟩ := blk_lp gl
            refine ⟨_, _, run_endRound (some (.exit id)) gl, false, rfl, g3.putObj hBl gl _, ?_⟩
            rw [putObj_lp hBl gl]
            exact g5
          | goto l => exact hx.elim
          | panic c => exact hx.elim
          | outgrown => exact hx.elim
        | ret => obtain ⟨_, _, _, _, _, h5⟩ := hx; exact h5.elim
        | exit id => obtain ⟨_, _, _, _, _, h5⟩ := hx; exact h5.elim
        | goto l => exact hx.elim
        | panic c => exact hx.elim
        | outgrown => exact hx.elim
    have hcall := hok _ hOY hMY B W1 _ _ (Nat.le_trans hB hbW1.size) hk
    have hargs : (fi.toList ++ [Value.func (.yield ((absW B w).size + 1)) #[] #[]] ++ cap.toList).toArray = fi ++ #[Value.func (.yield (w.heap.size + 1)) #[] #[]] ++ cap := by
      apply Array.ext'; simp [absW]
    rw [hargs] at hcall
    refine ⟨w.heap.size + 1, [mark w.heap.size], W1, { target := .fn (.func gf) cap, args := fi ++ #[.func (.yield (w.heap.size + 1)) #[] #[]] }, W1, gf,
      fi ++ #[.func (.yield (w.heap.size + 1)) #[] #[]] ++ cap, W1, ?_, ?_, fun f' _ => trivial, ?_, (fun h => by cases h), ?_⟩
    · rw [← hW1, hrec]; exact run_enterLoop_outer _ _ _ _ _
    · simp only [resolve, hev]
      simp [Deferred.ofValue, Act.eval]
    · simp [invoke, run_callFunc hcb]
    · refine Fok.wide.calls (hcall.mono fun en w' hx => ?_)
      obtain ⟨v, rfl, hb', hends⟩ := hx
      have hMk : ∀ (o : Obj) (r : Loop), w'.heap[w.heap.size + 1]? = some (.loop r) → Mk w0 (w'.putObj (w.heap.size + 1) o) { a with defers := [mark w.heap.size] ++ a.defers } := by
        intro o r hl
        obtain ⟨Ds, g1, g2, g3⟩ := hd
        refine ⟨w.heap.size :: Ds, by simp [g1], List.nodup_cons.2 ⟨fun hm => ?_, g2⟩, ?_⟩
        · have := (Array.getElem?_eq_some_iff.1 (g3 _ hm).2).1
          omega
        · intro D hD
          rcases List.mem_cons.1 hD with rfl | hD
          · exact ⟨hb.size, by rw [World.putObj_heap_other (by omega)]; exact hb'.d _ hD1⟩
          · have hlt := (Array.getElem?_eq_some_iff.1 (g3 _ hD).2).1
            refine ⟨(g3 D hD).1, ?_⟩
            rw [World.putObj_heap_other (by omega)]
            refine hb'.d D ?_
            rw [← hW1, Below.heap_alloc _ _ _ (by simp; omega), Below.heap_alloc _ _ _ hlt]
            exact (g3 D hD).2
      have hends : xends (w.heap.size + 1) rec Q e (absW B w') (outs bd) := hends
      have hBl : B ≤ w.heap.size + 1 := by omega
      have hbT := hbW1.trans hb'
      have key : ∀ (cs : List (Option Nat)), xends (w.heap.size + 1) rec Q e (absW B w') cs → rangePost Fence.wide m P (w.heap.size + 1) (lift B N w0 Q) { a with defers := [mark w.heap.size] ++ a.defers } (.returned v) w' := by
        intro cs
        induction cs with
        | nil =>
          intro hx
          obtain ⟨hl, hq⟩ := hx
          obtain ⟨_, hl⟩ := blk_lp hl
          refine ⟨_, _, run_endLoop hl (by rw [hrec]; simp), ?_⟩
          have hp : rec.pending = none := by rw [hrec]
          rw [hp]
          refine ⟨hMk _ _ hl, hN, hbT.putObj hBl hl _, e, hr, ?_⟩
          rw [putObj_lp hBl hl]
          unfold lpSet exh at hq
          rw [hp] at hq
          exact hq
        | cons c cs ih =>
          intro hx
          cases c with
          | none =>
            rcases hx with ⟨hl, hq⟩ | hx
            · obtain ⟨_, hl⟩ := blk_lp hl
              refine ⟨_, _, run_endLoop hl (by simp [dne]), ?_⟩
              refine wpIn_ret ⟨hMk _ _ hl, hN, hbT.putObj hBl hl _, e, hr, ?_⟩
              rw [putObj_lp hBl hl]
              exact hq
            · exact ih hx
          | some id =>
            rcases hx with ⟨hl, hq⟩ | hx
            · obtain ⟨_, hl⟩ := blk_lp hl
              refine ⟨_, _, run_endLoop hl (by simp [dne]), ?_⟩
              refine wpIn_exit ⟨hMk _ _ hl, hN, hbT.putObj hBl hl _, e, hr, ?_⟩
              rw [putObj_lp hBl hl]
              exact hq
            · exact ih hx
      exact key _ hends
  | _ => intro F m T B N w0 an Q e a w hF hT hTF hB hd hN hb hr hk; exact hk.elim

/-! ### Functions -/

theorem xresults_ok {P : Program} {h : Hp} {e : Env} {t : Array Value} (hr : Ref e t) : ∀ (rs : List ResultVar) (K : List Value → Prop), xresults P rs e h K →
    ∃ vs, K vs ∧ ∀ (B : Nat) (w : World), absW B w = h → (rs.mapM (fun r => match r with
      | .tmp i => pure (t.getD i undef)
      | .cell a ty => do loadVar ty (← asAddr (t.getD a undef))) : Sem (List Value)).run P w = .ok vs w
  | [], K, hk => ⟨[], hk, fun B w _ => by simp⟩
  | .tmp i :: rs, K, hk => by
    simp only [xresults] at hk
    cases hi : e.get i with
    | none => rw [hi] at hk; exact hk.elim
    | some v =>
      rw [hi] at hk
      obtain ⟨vs, hK, hrun⟩ := xresults_ok hr rs _ hk
      have ht : t.getD i undef = v := by have := hr.2 i v hi; simp [this]
      refine ⟨v :: vs, hK, fun B w hw => ?_⟩
      simp only [List.mapM_cons, Sem.run_bind, Sem.run_pure, Result.andThen_ok, hrun B w hw, ht]
  | .cell a ty :: rs, K, hk => by
    simp only [xresults] at hk
    split at hk
    case h_2 => exact hk.elim
    rename_i ad ha
    obtain ⟨v, hK1, hH, hload⟩ := xload_ok hk
    obtain ⟨vs, hK, hrun⟩ := xresults_ok hr rs _ hK1
    have ht : t.getD a undef = .pointer (some ad) := by have := hr.2 a _ ha; simp [this]
    refine ⟨v :: vs, hK, fun B w hw => ?_⟩
    subst hw
    have hadr : (asAddr (.pointer (some ad))).run P w = .ok ad w := rfl
    simp only [List.mapM_cons, Sem.run_bind, ht, hadr, Sem.run_pure, Result.andThen_ok, hload w hH.abs, hrun B w rfl]

theorem results_ok {P : Program} {h : Hp} {e : Env} {t : Array Value} {fn : Func} {K : Value → Prop} (hr : Ref e t) (hk : xresults P fn.results.toList e h fun vs => K (tup vs)) :
    ∃ v, K v ∧ ∀ (B : Nat) (w : World), absW B w = h → (results fn t).run P w = .ok v w := by
  obtain ⟨vs, hK, hrun⟩ := xresults_ok hr _ _ hk
  refine ⟨_, hK, fun B w hw => ?_⟩
  unfold results
  rw [Array.mapM_eq_mapM_toList]
  simp only [Sem.run_bind, Sem.run_map]
  erw [hrun B w hw]
  simp only [Result.andThen_ok, Sem.run_pure]
  congr 1
  match vs with
  | [] => simp [tup]
  | [v] => simp [tup]
  | _ :: _ :: _ => simp [tup]

theorem leaves_marks {P : Program} {fn : Func} {tmps : Array Value} {R : Ending → World → Prop} {v : Value} {B : Nat} : ∀ (Ds : List Nat) (w : World), Ds.Nodup → (∀ D ∈ Ds, B ≤ D ∧ w.heap[D]? = some (Obj.deferred (some []))) →
    (∀ w', absW B w' = absW B w → (∀ k, k ∉ Ds → w'.heap[k]? = w.heap[k]?) → w'.os = w.os → w'.tape = w.tape → w'.output = w.output → w'.heap.size = w.heap.size → (results fn tmps).run P w' = .ok v w' ∧ R (.returned v) w') →
    LeavesInM Fence.wide 0 P fn tmps R (Ds.map mark) .returning w
  | [], w, _, _, h => ⟨v, h w rfl (fun _ _ => rfl) rfl rfl rfl rfl⟩
  | D :: Ds, w, hn, hD, h => by
    obtain ⟨hB, hd⟩ := hD D (by simp)
    refine ⟨by simp, .inl ⟨D, _, rfl, run_takeDeferred hd, ?_⟩⟩
    have hnd := List.nodup_cons.1 hn
    refine leaves_marks (v := v) (B := B) Ds _ hnd.2 (fun D' hD' => ?_) (fun w' h1 h2 h3 h4 h5 h6 => ?_)
    · have hne : D' ≠ D := fun e => hnd.1 (e ▸ hD')
      exact ⟨(hD D' (by simp [hD'])).1, by rw [World.putObj_heap_other hne]; exact (hD D' (by simp [hD'])).2⟩
    · refine h w' (h1.trans (putObj_drop hB hd)) (fun k hk => ?_) h3 h4 h5 (h6.trans (by simp))
      rw [h2 k (fun e => hk (by simp [e])), World.putObj_heap_other (fun e => hk (by simp [e]))]

/-- A function's condition is worth its call. -/
theorem xfn_ok {P : Program} {C : CTab} {T : ITab} {f : FuncId} {fn : Func} {an : An} {c : CT} (hm : P.follows .mixedOrders = true) (hC : OkTab P C) (hT : OkTabI P T) (hf : P.funcs[f]? = some fn)
    (hc : ∀ vs h K, c vs h K → vs.length ≤ fn.ntmps ∧ xfn P C T fn an vs h K) : OkFn P f c := by
  intro B w vs K hB hk
  obtain ⟨hlen, hk⟩ := hc _ _ _ hk
  unfold xfn at hk
  cases hbody : fn.body with
  | none => rw [hbody] at hk; exact hk.elim
  | some code =>
    rw [hbody] at hk
    refine callsIn_wide.1 (callsIn_of_wp_marks (n := 0) hf hbody trivial ?_)
    have hr : Ref (vs.map some ++ List.replicate (fn.ntmps - vs.length) none) (vs.toArray ++ Array.replicate (fn.ntmps - vs.toArray.size) undef) := by
      refine ⟨by simp, fun i v hv => ?_⟩
      rw [Env.get_eq] at hv
      by_cases hi : i < vs.length
      · rw [List.getElem?_append_left (by simpa using hi)] at hv
        rw [Array.getElem?_append_left (by simpa using hi)]
        rw [List.getElem?_map] at hv
        have : (vs[i]?) = some v := by
          cases hx : vs[i]? with
          | none => rw [hx] at hv; cases hv
          | some u => rw [hx] at hv; simpa using hv
        simpa using this
      · rw [List.getElem?_append_right (by simpa using hi)] at hv
        simp only [List.getElem?_replicate] at hv
        split at hv <;> cases hv
    have H := xcode_ok hm hC code Fence.wide 0 T B (vs.toArray ++ Array.replicate (fn.ntmps - vs.toArray.size) undef).size w an _ _
      { tmps := vs.toArray ++ Array.replicate (fn.ntmps - vs.toArray.size) undef, defers := [] } w .wide hT (.inr rfl) hB (Mk.nil rfl) rfl (Bel.refl B w) hr hk
    have fin : ∀ (a' : Act) (w' : World), Mk w w' a' → Bel B w w' → (∃ e, Ref e a'.tmps ∧ xresults P fn.results.toList e (absW B w') fun vs => K (tup vs) (absW B w')) →
        LeavesInM Fence.wide 0 P fn a'.tmps (fun e w' => ∃ v, e = .returned v ∧ Bel B w w' ∧ K v (absW B w')) a'.defers .returning w' := by
      intro a' w' h1 h3 ⟨e, h4, h5⟩
      obtain ⟨Ds, g1, g2, g3⟩ := h1
      rw [g1]
      obtain ⟨v, hKv, hrun⟩ := results_ok (K := fun v => K v (absW B w')) h4 h5
      refine leaves_marks (v := v) Ds w' g2 (fun D hD => ⟨Nat.le_trans hB (g3 D hD).1, (g3 D hD).2⟩) (fun w2 e1 e2 e3 e4 e5 e6 => ⟨hrun B w2 e1, v, rfl, ⟨⟨e3.trans h3.b.os, e4.trans h3.b.tape, e5.trans h3.b.output, by rw [e6]; exact h3.b.size, fun k hk => ?_⟩, fun D hD => ?_⟩, by rw [e1]; exact hKv⟩)
      · rw [e2 k (fun hm => by have := (g3 k hm).1; omega)]
        exact h3.b.block k hk
      · rw [e2 D (fun hm => by have := (g3 D hm).1; have := (Array.getElem?_eq_some_iff.1 hD).1; omega)]
        exact h3.d D hD
    refine Go.wpIn_mono H ?_
    intro x a' w' hx
    cases x with
    | normal =>
      obtain ⟨h1, _, h3, e, h4, h5⟩ := hx
      exact fin a' w' h1 h3 ⟨e, h4, h5⟩
    | ret =>
      obtain ⟨h1, _, h3, e, h4, h5⟩ := hx
      exact fin a' w' h1 h3 ⟨e, h4, h5⟩
    | exit id => obtain ⟨_, _, _, e, _, h5⟩ := hx; exact h5.elim
    | goto l => exact hx.elim
    | panic c => exact hx.elim
    | outgrown => exact hx.elim

theorem xfn_okm {P : Program} {C : CTab} {T : ITab} {f : FuncId} {fn : Func} {an : An} {c : CT} (hm : P.follows .mixedOrders = true) (hC : OkTab P C) (hT : OkTabI P T) (hf : P.funcs[f]? = some fn)
    (hc : ∀ vs h K, c vs h K → vs.length ≤ fn.ntmps ∧ xfn P C T fn an vs h K) (hc' : ∀ vs h K K', c vs h K → xfn P C T fn an vs h K' → c vs h K') : OkFn P f c ∧ MonoC c :=
  ⟨xfn_ok hm hC hT hf hc, fun vs h K K' hK hk => hc' vs h K K' hk (xfn_mono hC.mono hT.mono hK (hc vs h K hk).2)⟩

/-- The same as 'xfn', closed to the elaborator. -/
def xfnD (P : Program) (C : CTab) (T : ITab) (fn : Func) (an : An) (vs : List Value) (h : Hp) (K : Value → Hp → Prop) : Prop := xfn P C T fn an vs h K

theorem xfnD_okm {P : Program} {C : CTab} {T : ITab} {f : FuncId} {fn : Func} {an : An} {c : CT} (hm : P.follows .mixedOrders = true) (hC : OkTab P C) (hT : OkTabI P T) (hf : P.funcs[f]? = some fn)
    (hc : ∀ vs h K, c vs h K → ∃ A, A ∧ vs.length ≤ fn.ntmps ∧ A = xfnD P C T fn an vs h K) (hc' : ∀ vs h K K', c vs h K → ∃ A, (A → c vs h K') ∧ A = xfnD P C T fn an vs h K') : OkFn P f c ∧ MonoC c :=
  xfn_okm hm hC hT hf (fun vs h K hk => by obtain ⟨A, ha, hl, he⟩ := hc vs h K hk; exact ⟨hl, Eq.mp he ha⟩)
    (fun vs h K K' hk hx => by obtain ⟨A, ha, he⟩ := hc' vs h K K' hk; exact ha (Eq.mpr he hx))

/-- An iterator. -/
theorem xfnD_oki {P : Program} {C : CTab} {f : FuncId} {fn : Func} {an : An} {it : YT → CT} (hcb : callable P f = true) (hm : P.follows .mixedOrders = true) (hC : OkTab P C) (hf : P.funcs[f]? = some fn)
    (hc : ∀ Y vs h K, it Y vs h K → ∃ A, A ∧ vs.length ≤ fn.ntmps ∧ A = xfnD P ((ykey, yct Y) :: C) [] fn an vs h K)
    (hc' : ∀ Y vs h K K', it Y vs h K → ∃ A, (A → it Y vs h K') ∧ A = xfnD P ((ykey, yct Y) :: C) [] fn an vs h K') : OkIt P f it := by
  refine ⟨hcb, fun Y hY vs h K K' hK hk => ?_, fun Y hO hY => ?_⟩
  · obtain ⟨A, ha, he⟩ := hc' Y vs h K K' hk
    obtain ⟨A0, ha0, _, he0⟩ := hc Y vs h K hk
    refine ha (Eq.mpr he ?_)
    refine xfn_mono (C := (ykey, yct Y) :: C) (fun g c hm => ?_) MonoT.nil hK (Eq.mp he0 ha0)
    rcases List.mem_cons.1 hm with h' | h'
    · cases h'; exact hY.yct
    · exact hC.mono _ _ h'
  · exact (xfnD_okm hm (OkTab.yield hO hY hC) (OkTabI.nil P) hf (hc Y) (hc' Y)).1

end Go.Hx
