/- Code and functions: if the condition holds over the abstract heap, the call goes through. No condition. -/
import Derived.Test.YtepochkdpllmkaaHxSoundG
import Derived.Scope
namespace Go.Hx
open Go.RowKit

/-! ### Joins: what is carried -/

theorem lproj_ok : ∀ (l : LK) (v : Value) (K : l.T → Prop), l.proj v K → ∃ x, v = l.emb x ∧ K x
  | .bool, v, K, h => by cases v <;> first | exact h.elim | exact ⟨_, rfl, h⟩
  | .int k, v, K, h => by
    cases v <;> first | exact h.elim | skip
    rename_i j n
    simp only [LK.proj] at h
    cases hjk : ieq j k with
    | false => rw [hjk] at h; exact h.elim
    | true => rw [hjk] at h; have := ieq_eq hjk; subst this; exact ⟨n, rfl, h⟩
  | .ptr, v, K, h => by cases v <;> first | exact h.elim | exact ⟨_, rfl, h⟩
  | .slice, v, K, h => by
    cases v <;> first | exact h.elim | skip
    rename_i a n c
    exact ⟨⟨a, n, c⟩, rfl, h⟩
  | .map, v, K, h => by cases v <;> first | exact h.elim | exact ⟨_, rfl, h⟩
  | .any, v, K, h => by cases v <;> exact ⟨_, rfl, h⟩

theorem projs_ok : ∀ (ls : List LK) (vs : List Value) (K : LKs ls → Prop), projs ls vs K → ∃ x, vs = embs ls x ∧ K x
  | [], [], K, h => ⟨(), rfl, h⟩
  | [], _ :: _, K, h => h.elim
  | l :: r, [], K, h => h.elim
  | l :: r, v :: vs, K, h => by
    obtain ⟨x, rfl, h1⟩ := lproj_ok l v _ h
    obtain ⟨y, rfl, h2⟩ := projs_ok r vs _ h1
    exact ⟨(x, y), rfl, h2⟩

theorem tproj_ok : ∀ (t : Ty) (o : Option Value) (K : t.T → Prop), t.proj o K → ∃ x, o = some (t.emb x) ∧ K x
  | .sc l, o, K, h => by
    cases o with
    | none => exact h.elim
    | some v => obtain ⟨x, rfl, hx⟩ := lproj_ok l v K h; exact ⟨x, rfl, hx⟩
  | .ag ls, o, K, h => by
    cases o with
    | none => exact h.elim
    | some v =>
      cases v <;> first | exact h.elim | skip
      rename_i vs
      obtain ⟨x, hx, hK⟩ := projs_ok ls vs.toList K h
      refine ⟨x, ?_, hK⟩
      have : vs = (embs ls x).toArray := by apply Array.ext'; simpa using hx
      rw [this]; rfl

/-- What is carried is what the frame holds. -/
theorem proj_ok {e0 : Env} {M : List Nat} : ∀ (L : Lv) (e : Env) (t : Array Value) (K : Tup L → Prop), Ref e t → Agr M e0 e → proj L e K → ∃ s, K s ∧ Ref (mk e0 M L s) t
  | [], e, t, K, hr, ha, h => by
    refine ⟨(), h, by simp only [mk, length_ovr]; rw [← hr.1, ha.1], fun i v hv => ?_⟩
    simp only [mk, get_ovr, Nat.zero_add] at hv
    by_cases hi : i ∈ M
    · rw [if_pos hi] at hv; cases hv
    · rw [if_neg hi] at hv
      exact hr.2 i v (by rw [ha.2 i hi]; exact hv)
  | x :: r, e, t, K, hr, ha, h => by
    simp only [proj] at h
    obtain ⟨y, hy, h1⟩ := tproj_ok x.2 _ _ h
    obtain ⟨s, hs, hr'⟩ := proj_ok r e t _ hr ha h1
    refine ⟨(y, s), hs, by rw [length_mk, ← hr.1, ha.1], fun i v hv => ?_⟩
    have hput : (mk e0 M (x :: r) (y, s)) = Env.put (mk e0 M r s) (some x.1) (x.2.emb y) := rfl
    rw [hput, Env.get_put] at hv
    by_cases hi : i = x.1 ∧ x.1 < (mk e0 M r s).length
    · rw [if_pos hi] at hv
      obtain ⟨rfl, _⟩ := hi
      cases hv
      exact hr.2 x.1 _ hy
    · rw [if_neg hi] at hv; exact hr'.2 i v hv

/-! ### Code -/

/-- A condition on exits, of frames and worlds. -/
def lift (B N : Nat) (w0 : World) (Q : Post) : Exit → Act → World → Prop
  | .panic _, _, _ => False
  | .outgrown, _, _ => False
  | .goto _, _, _ => False
  | x, a, w => a.defers = [] ∧ a.tmps.size = N ∧ Below B w0 w ∧ ∃ e, Ref e a.tmps ∧ Q x e (absW B w)

theorem lift_panic {B N : Nat} {w0 : World} {Q : Post} : ∀ c a w, ¬ lift B N w0 Q (.panic c) a w := fun _ _ _ h => h

theorem lift_then {B N : Nat} {w0 : World} {Q : Post} {n : Env → Hp → Prop} {M : Act → World → Prop}
    (hn : ∀ e a w, a.defers = [] → a.tmps.size = N → Below B w0 w → Ref e a.tmps → n e (absW B w) → M a w) :
    ∀ x a w, lift B N w0 (xthen n Q) x a w → Exit.then M (lift B N w0 Q) x a w := by
  intro x a w h
  cases x with
  | normal => obtain ⟨h1, h2, h3, e, h4, h5⟩ := h; exact hn e a w h1 h2 h3 h4 h5
  | _ => exact h

theorem lift_in {B N : Nat} {w0 : World} {Q : Post} {id : Nat} : ∀ x a w, lift B N w0 (xin id Q) x a w → Exit.inBlock id (lift B N w0 Q) x a w := by
  intro x a w h
  cases x with
  | exit j =>
    obtain ⟨h1, h2, h3, e, h4, h5⟩ := h
    simp only [xin] at h5
    simp only [Exit.inBlock]
    cases hb : Nat.beq j id with
    | true => rw [hb] at h5; rw [if_pos (Nat.eq_of_beq_eq_true hb)]; exact ⟨h1, h2, h3, e, h4, h5⟩
    | false =>
      rw [hb] at h5
      have : j ≠ id := fun hh => by subst hh; rw [Nat.beq_refl] at hb; cases hb
      rw [if_neg this]; exact ⟨h1, h2, h3, e, h4, h5⟩
  | _ => exact h

theorem lift_noGoto {B N : Nat} {w0 : World} {Q : Post} : ∀ x a w, lift B N w0 Q x a w → Exit.noGoto (lift B N w0 Q) x a w := by
  intro x a w h
  cases x <;> exact h

theorem least (p : Nat → Prop) (h : ∃ n, p n) : ∃ n, p n ∧ ∀ m, p m → n ≤ m := by
  obtain ⟨n, hn⟩ := h
  induction n using Nat.strongRecOn with
  | _ n ih =>
    by_cases hm : ∃ m, m < n ∧ p m
    · obtain ⟨m, hlt, hpm⟩ := hm; exact ih m hlt hpm
    · exact ⟨n, hn, fun m hpm => Nat.le_of_not_lt fun hlt => hm ⟨m, hlt, hpm⟩⟩

open Classical in
/-- A loop of which, at each head, some number of rounds is enough. -/
theorem wp_loop_iter {P : Program} {c : Code} {Q : Exit → Act → World → Prop} {a : Act} {w : World} (I : Nat → Act → World → Prop) (h0 : ∃ n, I n a w)
    (round : ∀ n a w, I n a w → c.wp P (Exit.then (fun a' w' => ∃ m, m < n ∧ I m a' w') Q) a w) : (Code.loop c).wp P Q a w := by
  refine wp_loop (fun a w => ∃ n, I n a w) (fun a w => if h : ∃ n, I n a w then Classical.choose (least (fun n => I n a w) h) else 0) h0 ?_
  intro a w h
  obtain ⟨hf, _⟩ := Classical.choose_spec (least (fun n => I n a w) h)
  refine Code.wp_mono ?_ (round _ a w hf)
  intro x a' w' hx
  cases x with
  | normal =>
    obtain ⟨m, hm, hI⟩ := hx
    have hex : ∃ n, I n a' w' := ⟨m, hI⟩
    refine ⟨hex, ?_⟩
    simp only [hex, h, dif_pos]
    exact Nat.lt_of_le_of_lt ((Classical.choose_spec (least (fun n => I n a' w') hex)).2 m hI) hm
  | _ => exact hx

theorem sub_ref {e : Env} {t : Array Value} {c : Operand} {b : Bool} (hr : Ref e t) (hc : xev e c = some (.bool b)) : Ref (sub e c b) t := by
  cases c with
  | tmp d => exact hr.same hc
  | _ => exact hr

theorem xcode_ok {P : Program} {C : CTab} {B N : Nat} {w0 : World} (hm : P.follows .mixedOrders = true) (hC : OkTab P C) (hB : B ≤ w0.heap.size) :
    ∀ (c : Code) (an : An) (Q : Post) (e : Env) (a : Act) (w : World),
    a.defers = [] → a.tmps.size = N → Below B w0 w → Ref e a.tmps → xcode P C c an Q e (absW B w) → c.wp P (lift B N w0 Q) a w := by
  intro c
  induction c with
  | skip => intro an Q e a w hd hN hb hr hk; exact wp_skip ⟨hd, hN, hb, e, hr, hk⟩
  | label l => intro an Q e a w hd hN hb hr hk; exact wp_label ⟨hd, hN, hb, e, hr, hk⟩
  | exit id => intro an Q e a w hd hN hb hr hk; exact wp_exit ⟨hd, hN, hb, e, hr, hk⟩
  | ret => intro an Q e a w hd hN hb hr hk; exact wp_ret ⟨hd, hN, hb, e, hr, hk⟩
  | region id ops draw =>
    intro an Q e a w hd hN hb hr hk
    exact xregion_ok hm hC lift_panic (Nat.le_trans hB hb.size) hr (fun e' a' w' h1 h2 h3 h4 => ⟨h2.1.trans hd, h2.2.trans hN, hb.trans h3, e', h1, h4⟩) hk
  | seq x y ihx ihy =>
    intro an Q e a w hd hN hb hr hk
    refine wp_seq ?_
    simp only [xcode] at hk
    split at hk
    · refine Code.wp_mono ?_ (ihx an.l _ e a w hd hN hb hr hk)
      exact lift_then fun e' a' w' h1 h2 h3 h4 h5 => ihy an.r Q e' a' w' h1 h2 h3 h4 h5
    · rename_i L hL
      split at hk
      case h_2 => exact hk.elim
      have hk' := xcode_mono hC.mono x an.l _ (xthen (fun e' h' => Agr (mods x) e e' ∧ proj L e' fun s => xcode P C y an.r Q (mk e (mods x) L s) h') Q) e _
        (fun z e' h' hag hq => by cases z <;> first | exact ⟨hag, hq⟩ | exact hq) hk
      refine Code.wp_mono ?_ (ihx an.l _ e a w hd hN hb hr hk')
      refine lift_then fun e' a' w' h1 h2 h3 h4 h5 => ?_
      obtain ⟨s, hs, hr'⟩ := proj_ok L e' a'.tmps _ h4 h5.1 h5.2
      exact ihy an.r Q _ a' w' h1 h2 h3 hr' hs
  | cond c x y ihx ihy =>
    intro an Q e a w hd hN hb hr hk
    simp only [xcode] at hk
    split at hk
    case h_2 => exact hk.elim
    rename_i b hc
    have hev : a.eval c = .bool b := hr.eval c _ hc
    cases b with
    | true => exact wp_cond_true hev (ihx an.l Q _ a w hd hN hb (sub_ref hr hc) hk)
    | false => exact wp_cond_false hev (ihy an.r Q _ a w hd hN hb (sub_ref hr hc) hk)
  | block id x ih =>
    intro an Q e a w hd hN hb hr hk
    exact wp_block (Code.wp_mono lift_in (ih an.l _ e a w hd hN hb hr hk))
  | loop x ih =>
    intro an Q e a w hd hN hb hr hk
    simp only [xcode] at hk
    split at hk
    · exact hk.elim
    · rename_i L hL
      split at hk
      case h_2 => exact hk.elim
      rename_i hin
      obtain ⟨s, ⟨n, hn⟩, hr'⟩ := proj_ok L e a.tmps _ hr (Agr.refl (mods x) e) hk
      refine wp_loop_iter (fun n a w => a.defers = [] ∧ a.tmps.size = N ∧ Below B w0 w ∧ ∃ s : Tup L, Ref (mk e (mods x) L s) a.tmps ∧
        iter (fun K (s : Tup L) h => xcode P C x an.l (xthen (fun e' h' => proj L e' fun s' => K s' h') Q) (mk e (mods x) L s) h) n s (absW B w)) ⟨n, hd, hN, hb, s, hr', hn⟩ ?_
      intro n a' w' hI
      obtain ⟨h1, h2, h3, s', h4, h5⟩ := hI
      cases n with
      | zero => exact h5.elim
      | succ n =>
        simp only [iter] at h5
        have h5' := xcode_mono hC.mono x an.l _ (xthen (fun e' h' => Agr (mods x) e e' ∧ proj L e' fun s' => iter (fun K (s : Tup L) h => xcode P C x an.l (xthen (fun e' h' => proj L e' fun s' => K s' h') Q) (mk e (mods x) L s) h) n s' h') Q) _ _
          (fun z e' h' hag hq => by cases z <;> first | exact ⟨(agr_mk e (mods x) L s' hin).trans hag, hq⟩ | exact hq) h5
        refine Code.wp_mono ?_ (ih an.l _ _ a' w' h1 h2 h3 h4 h5')
        refine lift_then fun e' a2 w2 g1 g2 g3 g4 g5 => ?_
        obtain ⟨s2, hs2, hr2⟩ := proj_ok L e' a2.tmps _ g4 g5.1 g5.2
        exact ⟨n, Nat.lt_succ_self n, g1, g2, g3, s2, hr2, hs2⟩
  | scope x ih => intro an Q e a w hd hN hb hr hk; exact wp_scope_straight (Code.wp_mono lift_noGoto (ih an.l Q e a w hd hN hb hr hk))
  | _ => intro an Q e a w hd hN hb hr hk; exact hk.elim

/-! ### Functions -/

theorem xresults_ok {P : Program} {B : Nat} {w : World} {e : Env} {t : Array Value} (hr : Ref e t) : ∀ (rs : List ResultVar) (K : List Value → Prop), xresults P rs e (absW B w) K →
    ∃ vs, K vs ∧ (rs.mapM (fun r => match r with
      | .tmp i => pure (t.getD i undef)
      | .cell a ty => do loadVar ty (← asAddr (t.getD a undef))) : Sem (List Value)).run P w = .ok vs w
  | [], K, hk => ⟨[], hk, by simp⟩
  | .tmp i :: rs, K, hk => by
    simp only [xresults] at hk
    cases hi : e.get i with
    | none => rw [hi] at hk; exact hk.elim
    | some v =>
      rw [hi] at hk
      obtain ⟨vs, hK, hrun⟩ := xresults_ok hr rs _ hk
      have ht : t.getD i undef = v := by have := hr.2 i v hi; simp [this]
      refine ⟨v :: vs, hK, ?_⟩
      simp only [List.mapM_cons, Sem.run_bind, Sem.run_pure, Result.andThen_ok, hrun, ht]
  | .cell a ty :: rs, K, hk => by
    simp only [xresults] at hk
    split at hk
    case h_2 => exact hk.elim
    rename_i ad ha
    obtain ⟨v, hK1, hH, hload⟩ := xload_ok hk
    obtain ⟨vs, hK, hrun⟩ := xresults_ok hr rs _ hK1
    have ht : t.getD a undef = .pointer (some ad) := by have := hr.2 a _ ha; simp [this]
    refine ⟨v :: vs, hK, ?_⟩
    have hadr : (asAddr (.pointer (some ad))).run P w = .ok ad w := rfl
    simp only [List.mapM_cons, Sem.run_bind, ht, hadr, Sem.run_pure, Result.andThen_ok, hload w hH.abs, hrun]

theorem results_ok {P : Program} {B : Nat} {w : World} {e : Env} {t : Array Value} {fn : Func} {K : Value → Prop} (hr : Ref e t) (hk : xresults P fn.results.toList e (absW B w) fun vs => K (tup vs)) :
    ∃ v, K v ∧ (results fn t).run P w = .ok v w := by
  obtain ⟨vs, hK, hrun⟩ := xresults_ok hr _ _ hk
  refine ⟨_, hK, ?_⟩
  unfold results
  rw [Array.mapM_eq_mapM_toList]
  simp only [Sem.run_bind, Sem.run_map]
  erw [hrun]
  simp only [Result.andThen_ok, Sem.run_pure]
  congr 1
  match vs with
  | [] => simp [tup]
  | [v] => simp [tup]
  | _ :: _ :: _ => simp [tup]

/-- A function's condition is worth its call. -/
theorem xfn_ok {P : Program} {C : CTab} {f : FuncId} {fn : Func} {an : An} {c : CT} (hm : P.follows .mixedOrders = true) (hC : OkTab P C) (hf : P.funcs[f]? = some fn)
    (hc : ∀ vs h K, c vs h K → vs.length ≤ fn.ntmps ∧ xfn P C fn an vs h K) : OkFn P f c := by
  intro B w vs K hB hk
  obtain ⟨hlen, hk⟩ := hc _ _ _ hk
  unfold xfn at hk
  cases hbody : fn.body with
  | none => rw [hbody] at hk; exact hk.elim
  | some code =>
    rw [hbody] at hk
    refine calls_of_wp hf hbody ?_
    have hr : Ref (vs.map some ++ List.replicate (fn.ntmps - vs.length) none) (vs.toArray ++ Array.replicate (fn.ntmps - vs.toArray.size) undef) := by
      refine ⟨by simp, fun i v hv => ?_⟩
      rw [Env.get_eq] at hv
      by_cases hi : i < vs.length
      · rw [List.getElem?_append_left (by simpa using hi)] at hv
        rw [Array.getElem?_append_left (by simpa using hi)]
        rw [List.getElem?_map] at hv
        have : (vs[i]?) = some v := by
          cases hx : vs[i]? with
          | none => rw [hx] at hv; cases hv
          | some u => rw [hx] at hv; simpa using hv
        simpa using this
      · rw [List.getElem?_append_right (by simpa using hi)] at hv
        simp only [List.getElem?_replicate] at hv
        split at hv <;> cases hv
    have H := xcode_ok (B := B) (N := (vs.toArray ++ Array.replicate (fn.ntmps - vs.toArray.size) undef).size) (w0 := w) hm hC hB code an _ _
      { tmps := vs.toArray ++ Array.replicate (fn.ntmps - vs.toArray.size) undef, defers := [] } w rfl rfl (Below.refl B w) hr hk
    refine Code.wp_mono ?_ H
    intro x a' w' hx
    cases x with
    | normal =>
      obtain ⟨h1, _, h3, e, h4, h5⟩ := hx
      obtain ⟨v, hK, hrun⟩ := results_ok (K := fun v => K v (absW B w')) h4 h5
      exact ⟨h1, v, hrun, v, rfl, h3, hK⟩
    | ret =>
      obtain ⟨h1, _, h3, e, h4, h5⟩ := hx
      obtain ⟨v, hK, hrun⟩ := results_ok (K := fun v => K v (absW B w')) h4 h5
      exact ⟨h1, v, hrun, v, rfl, h3, hK⟩
    | exit id => obtain ⟨_, _, _, e, _, h5⟩ := hx; exact h5.elim
    | goto l => exact hx.elim
    | panic c => exact hx.elim
    | outgrown => exact hx.elim

theorem xfn_okm {P : Program} {C : CTab} {f : FuncId} {fn : Func} {an : An} {c : CT} (hm : P.follows .mixedOrders = true) (hC : OkTab P C) (hf : P.funcs[f]? = some fn)
    (hc : ∀ vs h K, c vs h K → vs.length ≤ fn.ntmps ∧ xfn P C fn an vs h K) (hc' : ∀ vs h K K', c vs h K → xfn P C fn an vs h K' → c vs h K') : OkFn P f c ∧ MonoC c :=
  ⟨xfn_ok hm hC hf hc, fun vs h K K' hK hk => hc' vs h K K' hk (xfn_mono hC.mono hK (hc vs h K hk).2)⟩

/-- The same as 'xfn', closed to the elaborator. -/
def xfnD (P : Program) (C : CTab) (fn : Func) (an : An) (vs : List Value) (h : Hp) (K : Value → Hp → Prop) : Prop := xfn P C fn an vs h K

theorem xfnD_okm {P : Program} {C : CTab} {f : FuncId} {fn : Func} {an : An} {c : CT} (hm : P.follows .mixedOrders = true) (hC : OkTab P C) (hf : P.funcs[f]? = some fn)
    (hc : ∀ vs h K, c vs h K → ∃ A, A ∧ vs.length ≤ fn.ntmps ∧ A = xfnD P C fn an vs h K) (hc' : ∀ vs h K K', c vs h K → ∃ A, (A → c vs h K') ∧ A = xfnD P C fn an vs h K') : OkFn P f c ∧ MonoC c :=
  xfn_okm hm hC hf (fun vs h K hk => by obtain ⟨A, ha, hl, he⟩ := hc vs h K hk; exact ⟨hl, Eq.mp he ha⟩)
    (fun vs h K K' hk hx => by obtain ⟨A, ha, he⟩ := hc' vs h K K' hk; exact ha (Eq.mpr he hx))

end Go.Hx
