/- The conditions grow with what is asked behind them, and a piece of code leaves alone the slots that it does not write. No condition. -/
import Derived.Test.YthohhnnjpaepnaaHxSem
namespace Go.Hx
set_option linter.unusedSimpArgs false
set_option linter.unusedVariables false

def MonoC (c : CT) : Prop := ∀ vs h (K K' : Value → Hp → Prop), (∀ v h, K v h → K' v h) → c vs h K → c vs h K'

theorem ld1_mono {h : Hp} {a : Addr} {l : LK} {K K' : Value → Prop} (hK : ∀ v, K v → K' v) (hk : ld1 h a l K) : ld1 h a l K' := by
  cases l with
  | bool => obtain ⟨b, hb, h1⟩ := hk; exact ⟨b, hb, hK _ h1⟩
  | int k => obtain ⟨b, hb, h1⟩ := hk; exact ⟨b, hb, hK _ h1⟩
  | ptr => obtain ⟨b, hb, h1⟩ := hk; exact ⟨b, hb, hK _ h1⟩
  | slice => obtain ⟨b, hb, h1⟩ := hk; exact ⟨b, hb, hK _ h1⟩
  | map => obtain ⟨b, hb, h1⟩ := hk; exact ⟨b, hb, hK _ h1⟩
  | any => obtain ⟨b, hb, h0, h1⟩ := hk; exact ⟨b, hb, h0, hK _ h1⟩
  | adr => exact hk.elim

theorem xloads_mono {h : Hp} {a : Addr} : ∀ (ls : List LK) (i : Nat) {K K' : List Value → Prop}, (∀ v, K v → K' v) → xloads h a ls i K → xloads h a ls i K'
  | [], _, _, _, hK, hk => hK _ hk
  | _ :: r, i, _, _, hK, hk => ld1_mono (fun _ h1 => xloads_mono r (i + 1) (fun _ h2 => hK _ h2) h1) hk

theorem xload_mono {P : Program} {t : TypeId} {h : Hp} {a : Addr} {K K' : Value → Prop} (hK : ∀ v, K v → K' v) (hk : xload P t h a K) : xload P t h a K' := by
  unfold xload at *
  split at hk
  · split at hk
    · split at hk
      · exact xloads_mono _ _ (fun _ h2 => hK _ h2) hk
      · exact hk.elim
    · exact ld1_mono hK hk
    · exact hk.elim
  · exact hk.elim

theorem cnd_mono' {b : Bool} {X Y X' Y' : Prop} (h1 : X → X') (h2 : Y → Y') (hk : cnd' b X Y) : cnd' b X' Y' := by
  cases b
  · exact h2 hk
  · exact h1 hk

theorem xbin_mono {P : Program} {t : TypeId} {op : BinOp} {x y : Value} {K K' : Value → Prop} (hK : ∀ v, K v → K' v) (hk : xbin P t op x y K) : xbin P t op x y K' := by
  unfold xbin at *
  split at hk
  · exact ⟨hk.1, hK _ hk.2⟩
  · exact ⟨hk.1, hK _ hk.2⟩
  · refine cnd_mono' (fun h1 => ?_) id hk
    split at h1 <;> first | exact hK _ h1 | exact ⟨h1.1, hK _ h1.2⟩ | exact h1.elim
  all_goals first
    | (split at hk <;> first | exact hK _ hk | exact hk.elim)
    | exact hk.elim

theorem sel_mono {K K' : Value → Prop} (hK : ∀ v, K v → K' v) {i : Int} : ∀ (vs : List Value) (j : Nat), sel K i vs j → sel K' i vs j
  | [], _, _ => trivial
  | _ :: vs, j, h => ⟨fun e => hK _ (h.1 e), sel_mono hK vs (j + 1) h.2⟩

theorem xlen_mono {P : Program} {t : TypeId} {v : Value} {K K' : Value → Prop} (hK : ∀ v, K v → K' v) (hk : xlen P t v K) : xlen P t v K' := by
  unfold xlen at *
  split at hk <;> first | exact hK _ hk | exact hk.elim

theorem xmin_mono {vs : List Value} {K K' : Value → Prop} (hK : ∀ v, K v → K' v) (hk : xmin vs K) : xmin vs K' := by
  unfold xmin at *
  split at hk <;> first | exact hK _ hk | exact hk.elim

theorem xmax_mono {vs : List Value} {K K' : Value → Prop} (hK : ∀ v, K v → K' v) (hk : xmax vs K) : xmax vs K' := by
  unfold xmax at *
  split at hk <;> first | exact hK _ hk | exact hk.elim

theorem xslice_mono {P : Program} {t : TypeId} {v : Value} {l h m : Option Int} {K K' : Value → Prop} (hK : ∀ v, K v → K' v) (hk : xslice P t v l h m K) : xslice P t v l h m K' := by
  unfold xslice at *
  split at hk
  · split at hk
    · exact ⟨hk.1, hk.2.1, hk.2.2.1, hk.2.2.2.1, hK _ hk.2.2.2.2⟩
    · exact hk.elim
  · exact hk.elim

theorem sl_mono {v : Value} {K K' : Sl → Prop} (hK : ∀ s, K s → K' s) (hk : sl v K) : sl v K' := by
  cases v <;> first | exact hk.elim | exact hK _ hk

theorem xval_mono {P : Program} {op : Op} {ev : Operand → Option Value} {h : Hp} {K K' : Value → Prop} (hK : ∀ v, K v → K' v) (hk : xval P op ev h K) : xval P op ev h K' := by
  cases op <;> simp only [xval] at hk ⊢ <;> first | exact hk.elim | skip
  case move => split at hk <;> first | exact hK _ hk | exact hk.elim
  case assign => split at hk <;> first | exact hK _ hk | exact hk.elim
  case pick => split at hk <;> first | (split at hk <;> first | exact hK _ hk | exact hk.elim) | exact hk.elim
  case build =>
    split at hk
    · split at hk <;> first | exact hK _ hk | exact hk.elim
    · exact hk.elim
  case load => split at hk <;> first | exact xload_mono hK hk | exact hk.elim
  case nilCheck =>
    split at hk
    · obtain ⟨a, h1, h2⟩ := hk; exact ⟨a, h1, hK _ h2⟩
    · exact hK _ hk
    · exact hK _ hk
    · exact hk.elim
  case binOp =>
    split at hk
    · split at hk
      · split at hk <;> first | exact hK _ hk | exact hk.elim
      · exact hk.elim
    · exact xbin_mono hK hk
    · exact hk.elim
  case unOp => split at hk <;> first | exact hK _ hk | exact hk.elim
  case convert => split at hk <;> first | exact hK _ hk | exact hk.elim
  case makeFunc => split at hk <;> first | exact hK _ hk | exact hk.elim
  case slice =>
    split at hk
    · split at hk
      · exact xslice_mono hK hk
      · exact hk.elim
    · exact hk.elim
  case fieldAddr =>
    split at hk
    · split at hk
      · split at hk <;> first | exact hK _ hk | exact hk.elim
      · exact hk.elim
    · exact hk.elim
  case field =>
    split at hk
    · split at hk
      · split at hk <;> first | exact hK _ hk | exact hk.elim
      · exact hk.elim
    · exact hk.elim
  case indexAddr =>
    split at hk
    · split at hk
      · obtain ⟨a, h1, h2, h3, h4⟩ := hk; exact ⟨a, h1, h2, h3, hK _ h4⟩
      · exact hk.elim
    · split at hk
      · exact ⟨hk.1, hk.2.1, hK _ hk.2.2⟩
      · exact hk.elim
    · exact hk.elim
  case index =>
    split at hk
    · split at hk <;> first | exact hK _ hk | exact hk.elim
    · split at hk
      · split at hk
        · exact ⟨hk.1, hk.2.1, sel_mono hK _ _ hk.2.2⟩
        · exact hk.elim
      · exact hk.elim
    · exact hk.elim
  case extract =>
    split at hk
    · split at hk <;> first | exact hK _ hk | exact hk.elim
    · exact hk.elim
  case call =>
    split at hk
    · split at hk
      · exact xlen_mono hK hk
      · exact hk.elim
    · exact xmin_mono hK hk
    · exact xmax_mono hK hk
    · exact hk.elim

theorem stores_mono {a : Addr} : ∀ (vs : List Value) (i : Nat) (h : Hp) {K K' : Hp → Prop}, (∀ h, K h → K' h) → stores a vs i h K → stores a vs i h K'
  | [], _, _, _, _, hK, hk => hK _ hk
  | v :: vs, i, h, _, _, hK, hk => by
    simp only [stores] at *
    split at hk
    · exact ⟨hk.1, stores_mono vs (i + 1) _ hK hk.2⟩
    · exact hk.elim

theorem app_mono {size bytes : Nat} {z : List Value} {s x : Sl} {h : Hp} {K K' : Sl → Hp → Prop} (hK : ∀ v h, K v h → K' v h) (hk : app size bytes z s x h K) : app size bytes z s x h K' := by
  obtain ⟨o, n, h1, h2, h3, h4, h5⟩ := hk
  exact ⟨o, n, h1, h2, h3, fun hr => ⟨(h4 hr).1, hK _ _ (h4 hr).2⟩, fun hg => ⟨(h5 hg).1, (h5 hg).2.1, fun c hc => hK _ _ ((h5 hg).2.2 c hc)⟩⟩

theorem cls_mono : ∀ (C : CTab), (∀ f c, (f, c) ∈ C → MonoC c) → ∀ f, MonoC (cls C f)
  | [], _, _ => fun _ _ _ _ _ hk => hk
  | (g, c) :: r, hC, f => by
    intro vs h K K' hK hk
    unfold cls at hk ⊢
    cases hb : Nat.beq f g with
    | true => rw [hb] at hk; exact hC g c (by simp) vs h K K' hK hk
    | false => rw [hb] at hk; exact cls_mono r (fun f c hm => hC f c (by simp [hm])) f vs h K K' hK hk

section
variable {P : Program} {C : CTab} (hC : ∀ f c, (f, c) ∈ C → MonoC c)
include hC

theorem cv_mono {v : Value} {vs : List Value} {h : Hp} {K K' : Value → Hp → Prop} (hK : ∀ v h, K v h → K' v h) (hk : cv C v vs h K) : cv C v vs h K' := by
  unfold cv at *
  split at hk
  · split at hk
    · exact cls_mono C hC _ _ _ _ _ hK hk
    · exact hk.elim
  · split at hk
    · exact cls_mono C hC _ _ _ _ _ hK hk
    · exact hk.elim
  · exact hk.elim

theorem xop_mono {op : Op} {ev : Operand → Option Value} {h : Hp} {K K' : Value → Hp → Prop} (hK : ∀ v h, K v h → K' v h) (hk : xop P C op ev h K) : xop P C op ev h K' := by
  cases op <;> simp only [xop] at hk ⊢ <;> first | exact xval_mono (fun v => hK v h) hk | skip
  case alloc => split at hk <;> first | exact hK _ _ hk | exact hk.elim
  case box => split at hk <;> first | exact hK _ _ hk | exact hk.elim
  case buildSlice =>
    split at hk
    · split at hk
      · split at hk <;> first | exact hK _ _ hk | exact hk.elim
      · exact hk.elim
    · exact hk.elim
  case store =>
    split at hk
    · split at hk
      · exact stores_mono _ _ _ (fun _ h1 => hK _ _ h1) hk
      · exact hk.elim
    · exact hk.elim
  case makeSlice =>
    split at hk
    · split at hk
      · split at hk
        · exact ⟨hk.1, hk.2.1, hk.2.2.1, hK _ _ hk.2.2.2⟩
        · exact hk.elim
      · exact hk.elim
    · exact hk.elim
  case call =>
    split at hk
    · split at hk
      · exact cv_mono hC hK hk
      · exact hk.elim
    · split at hk
      · split at hk
        · split at hk
          · split at hk
            · exact sl_mono (fun _ h0 => sl_mono (fun _ h1 => app_mono (fun _ _ h2 => hK _ _ h2) h1) h0) hk
            · exact hk.elim
          · exact hk.elim
        · exact hk.elim
      · exact hk.elim
    · split at hk
      · split at hk
        · split at hk
          · refine sl_mono (fun _ h0 => sl_mono (fun _ h1 => ?_) h0) hk
            obtain ⟨cs, g1, g2, g3, g4⟩ := h1
            exact ⟨cs, g1, g2, fun q => hK _ _ (g3 q), fun a ha => ⟨(g4 a ha).1, (g4 a ha).2.1, hK _ _ (g4 a ha).2.2⟩⟩
          · exact hk.elim
        · exact hk.elim
      · exact hk.elim
    · split at hk
      · split at hk
        · split at hk
          · split at hk
            · exact sl_mono (fun _ h0 => ⟨fun q => hK _ _ (h0.1 q), fun a ha hn => ⟨(h0.2 a ha hn).1, (h0.2 a ha hn).2.1, hK _ _ (h0.2 a ha hn).2.2⟩⟩) hk
            · exact hk.elim
          · exact hk.elim
        · exact hk.elim
      · exact hk.elim
    · exact xval_mono (fun v => hK v h) hk

/-! ### Slots that are not written -/

/-- Out of M the frame is as it was. -/
def Agr (M : List Nat) (e e' : Env) : Prop := e'.length = e.length ∧ ∀ i, i ∉ M → e'.get i = e.get i

omit hC in
theorem Agr.refl (M : List Nat) (e : Env) : Agr M e e := ⟨rfl, fun _ _ => rfl⟩
omit hC in
theorem Agr.trans {M : List Nat} {a b c : Env} (h : Agr M a b) (k : Agr M b c) : Agr M a c := ⟨k.1.trans h.1, fun i hi => (k.2 i hi).trans (h.2 i hi)⟩
omit hC in
theorem Agr.mono {M N : List Nat} {a b : Env} (h : Agr M a b) (hs : ∀ i, i ∈ M → i ∈ N) : Agr N a b := ⟨h.1, fun i hi => h.2 i fun hm => hi (hs i hm)⟩

omit hC in
theorem get_put' (e : Env) (d : Tmp) (v : Value) (i : Nat) (h : i ≠ d) : (e.put (some d) v).get i = e.get i := by
  induction e generalizing d i with
  | nil => rfl
  | cons x r ih =>
    cases d with
    | zero =>
      cases i with
      | zero => exact absurd rfl h
      | succ i => rfl
    | succ d =>
      cases i with
      | zero => rfl
      | succ i =>
        have := ih d i (fun hh => h (by rw [hh]))
        simpa [Env.put, Env.get] using this

omit hC in
theorem get_same' (e : Env) (d : Tmp) (v : Value) (h : e.get d = some v) (i : Nat) : (e.put (some d) v).get i = e.get i := by
  induction e generalizing d i with
  | nil => rfl
  | cons x r ih =>
    cases d with
    | zero =>
      cases i with
      | zero => simp [Env.get] at h; simp [Env.put, Env.get, h]
      | succ i => rfl
    | succ d =>
      cases i with
      | zero => rfl
      | succ i =>
        have := ih d (by simpa [Env.get] using h) i
        simpa [Env.put, Env.get] using this

omit hC in
theorem Agr.put (M : List Nat) (e : Env) (d : Option Tmp) (v : Value) (h : ∀ x, d = some x → x ∈ M) : Agr M e (e.put d v) := by
  cases d with
  | none => exact Agr.refl M e
  | some d => exact ⟨by simp [Env.put], fun i hi => get_put' e d v i fun hh => hi (hh ▸ h d rfl)⟩

omit hC in
theorem Agr.same (M : List Nat) (e : Env) (d : Tmp) (v : Value) (h : e.get d = some v) : Agr M e (e.put (some d) v) :=
  ⟨by simp [Env.put], fun i _ => get_same' e d v h i⟩

omit hC in
theorem guarded_mono {ops : Array Oper} {o : Oper} {e : Env} {X Y X' Y' : Env → Prop} (M : List Nat) (hX : ∀ e', Agr M e e' → X e' → X' e') (hY : ∀ e', Agr M e e' → Y e' → Y' e')
    (hg : guarded ops o e X Y) : guarded ops o e X' Y' := by
  unfold guarded at *
  split at hg
  · exact hX e (Agr.refl M e) hg
  · rename_i j want hgd
    split at hg
    · exact hY e (Agr.refl M e) hg
    · rename_i d hd
      split at hg
      · rename_i b hb
        cases b <;> cases want <;> simp only [cnd'] at hg ⊢
        · exact hX _ (Agr.same M e d _ hb) hg
        · exact hY _ (Agr.same M e d _ hb) hg
        · exact hY _ (Agr.same M e d _ hb) hg
        · exact hX _ (Agr.same M e d _ hb) hg
      · exact hY e (Agr.refl M e) hg
      · exact hg.elim

omit hC in
theorem mem_dsts {o : Oper} {l : List Oper} {d : Tmp} (ho : o ∈ l) (hd : o.dst = some d) : d ∈ dsts l := by
  induction l with
  | nil => cases ho
  | cons x r ih =>
    simp only [dsts]
    rcases List.mem_cons.1 ho with rfl | ho
    · rw [hd]; simp
    · split
      · exact List.mem_cons_of_mem _ (ih ho)
      · exact ih ho

theorem xops_mono {ops : Array Oper} (M : List Nat) {K K' : Env → Hp → Prop} : ∀ (l : List Oper) (e : Env) (h : Hp), (∀ o ∈ l, ∀ d, o.dst = some d → d ∈ M) →
    (∀ e' h, Agr M e e' → K e' h → K' e' h) → xops P C ops l e h K → xops P C ops l e h K'
  | [], e, h, _, hK, hk => hK e h (Agr.refl M e) hk
  | o :: r, e, h, hM, hK, hk => by
    simp only [xops] at *
    refine guarded_mono M (fun e1 h1 hX => ?_) (fun e1 h1 hY => ?_) hk
    · refine xop_mono hC (fun v h' hh => ?_) hX
      exact xops_mono M r _ _ (fun x hx => hM x (List.mem_cons_of_mem _ hx)) (fun e2 h2 ha => hK e2 h2 (h1.trans ((Agr.put M e1 o.dst v (hM o (by simp))).trans ha))) hh
    · exact xops_mono M r _ _ (fun x hx => hM x (List.mem_cons_of_mem _ hx)) (fun e2 h2 ha => hK e2 h2 (h1.trans ((Agr.put M e1 o.dst undef (hM o (by simp))).trans ha))) hY

omit hC in
theorem rcs_mono {h : Hp} {a : Addr} {K K' : Prop} (hK : K → K') : ∀ (vs : List Value) (i : Nat), rcs h a vs i K → rcs h a vs i K'
  | [], _, hk => hK hk
  | _ :: vs, i, hk => ⟨hk.1, rcs_mono hK vs (i + 1) hk.2⟩

omit hC in
theorem rc_mono {h : Hp} : ∀ (F : Held) {K K' : Prop}, (K → K') → rc h F K → rc h F K'
  | [], _, _, hK, hk => hK hk
  | (_, _, vs) :: F, _, _, hK, hk => rcs_mono (fun h1 => rc_mono F hK h1) vs 0 hk

omit hC in
theorem effs_mono {f g : Nat → Prop} (hfg : ∀ i, f i → g i) : ∀ (l : List Nat), effs f l → effs g l
  | [], _ => trivial
  | [i], h => hfg i h
  | i :: j :: r, h => ⟨hfg i h.1, effs_mono hfg (j :: r) h.2⟩

theorem xcan_mono {ops : Array Oper} {A : List Nat} (M : List Nat) (hM : ∀ (i : Nat) (o : Oper), ops[i]? = some o → ∀ d, o.dst = some d → d ∈ M) {K K' : Env → Hp → Prop} : ∀ (n : Nat) (L : Array Bool) (F : Held) (e : Env) (h : Hp),
    (∀ e' h, Agr M e e' → K e' h → K' e' h) → xcan P C ops A n L F e h K → xcan P C ops A n L F e h K'
  | 0, L, F, e, h, hK, hk => by
    simp only [xcan] at *
    split at hk
    · exact hK e h (Agr.refl M e) hk
    · exact hk.elim
  | n + 1, L, F, e, h, hK, hk => by
    simp only [xcan] at *
    cases hp : pickQ ops L with
    | some i =>
      rw [hp] at hk
      simp only at *
      cases ho : ops[i]? with
      | none => rw [ho] at hk; exact hk.elim
      | some o =>
        rw [ho] at hk
        simp only at *
        refine guarded_mono M (fun e1 h1 hX => ?_) (fun e1 h1 hY => ?_) hk
        · refine xval_mono (fun v hh => ?_) hX
          exact xcan_mono M hM n _ _ _ _ (fun e2 h2 ha => hK e2 h2 (h1.trans ((Agr.put M e1 o.dst v (hM i o ho)).trans ha))) hh
        · exact xcan_mono M hM n _ _ _ _ (fun e2 h2 ha => hK e2 h2 (h1.trans ((Agr.put M e1 o.dst undef (hM i o ho)).trans ha))) hY
    | none =>
      rw [hp] at hk
      simp only at *
      cases hrd : Region.ready .any ops L with
      | nil => rw [hrd] at hk; exact hK e h (Agr.refl M e) hk
      | cons i0 rs =>
        rw [hrd] at hk
        simp only at *
        refine effs_mono (fun i hi => ?_) _ hk
        cases ho : ops[i]? with
        | none => rw [ho] at hi; exact hi.elim
        | some o =>
          rw [ho] at hi
          simp only at *
          refine guarded_mono M (fun e1 h1 hX => ?_) (fun e1 h1 hY => ?_) hi
          · refine xop_mono hC (fun v h' hh => rc_mono _ (fun hh => ?_) hh) hX
            exact xcan_mono M hM n _ _ _ _ (fun e2 h2 ha => hK e2 h2 (h1.trans ((Agr.put M e1 o.dst v (hM i o ho)).trans ha))) hh
          · exact xcan_mono M hM n _ _ _ _ (fun e2 h2 ha => hK e2 h2 (h1.trans ((Agr.put M e1 o.dst undef (hM i o ho)).trans ha))) hY

theorem xregion_mono {ops : Array Oper} {draw : Bool} {e : Env} {h : Hp} {K K' : Env → Hp → Prop} (hK : ∀ e' h, Agr (dsts ops.toList) e e' → K e' h → K' e' h)
    (hk : xregion P C ops draw e h K) : xregion P C ops draw e h K' := by
  cases draw with
  | false => exact xops_mono hC _ _ _ _ (fun o ho d hd => mem_dsts ho hd) hK hk
  | true =>
    simp only [xregion] at *
    split at hk
    · exact xcan_mono hC _ (fun i o ho d hd => mem_dsts (by simpa using Array.mem_of_getElem? ho) hd) _ _ _ _ _ hK hk
    · exact hk.elim

/-! ### Frames at joins -/

omit hC in
theorem length_ovr (M : List Nat) : ∀ (e : Env) (i : Nat), (ovr M e i).length = e.length
  | [], _ => rfl
  | _ :: r, i => by simp [ovr, length_ovr M r (i + 1)]

omit hC in
theorem get_ovr (M : List Nat) : ∀ (e : Env) (k i : Nat), (ovr M e k).get i = if (k + i) ∈ M then none else e.get i
  | [], k, i => by simp [ovr, Env.get]
  | x :: r, k, 0 => by
    simp only [ovr, Env.get, Nat.add_zero]
    by_cases h : k ∈ M
    · have : M.elem k = true := by simpa using h
      simp [h]
    · have : M.elem k = false := by simpa using h
      simp [h]
  | x :: r, k, i + 1 => by
    simp only [ovr, Env.get]
    rw [get_ovr M r (k + 1) i, show k + 1 + i = k + (i + 1) by omega]

omit hC in
theorem length_mk (e : Env) (M : List Nat) : ∀ (L : Lv) (s : Tup L), (mk e M L s).length = e.length
  | [], _ => length_ovr M e 0
  | x :: r, s => by simp [mk, length_mk e M r s.2]

omit hC in
theorem agr_mk (e : Env) (M : List Nat) : ∀ (L : Lv) (s : Tup L), lvIn L M = true → Agr M e (mk e M L s)
  | [], _, _ => ⟨length_ovr M e 0, fun i hi => by simp [mk, get_ovr, hi]⟩
  | x :: r, s, h => by
    simp only [lvIn, List.all_cons, Bool.and_eq_true] at h
    have h1 := agr_mk e M r s.2 h.2
    exact h1.trans (Agr.put M (mk e M r s.2) (some x.1) (x.2.emb s.1) (fun y hy => by cases hy; simpa using h.1))

omit hC in
theorem proj_mono : ∀ (L : Lv) (e : Env) {K K' : Tup L → Prop}, (∀ s, K s → K' s) → proj L e K → proj L e K'
  | [], _, _, _, hK, hk => hK _ hk
  | x :: r, e, K, K', hK, hk => by
    have tm : ∀ (t : Ty) (o : Option Value) {A A' : t.T → Prop}, (∀ x, A x → A' x) → t.proj o A → t.proj o A' := by
      intro t o A A' hA ha
      cases t with
      | sc l =>
        cases o with
        | none => exact ha.elim
        | some v =>
          cases l <;> cases v <;> first | exact hA _ ha | exact ha.elim | skip
          · exact cnd_mono' (hA _) id ha
          · rename_i p; cases p <;> first | exact hA _ ha | exact ha.elim
      | ag ls =>
        cases o with
        | none => exact ha.elim
        | some v =>
          cases v <;> first | exact ha.elim | skip
          rename_i vs
          have pm : ∀ (ls : List LK) (us : List Value) {A A' : LKs ls → Prop}, (∀ x, A x → A' x) → projs ls us A → projs ls us A' := by
            intro ls
            induction ls with
            | nil => intro us A A' hA ha; cases us <;> first | exact hA _ ha | exact ha.elim
            | cons l ls ih =>
              intro us A A' hA ha
              cases us with
              | nil => exact ha.elim
              | cons u us =>
                simp only [projs] at ha ⊢
                cases l <;> cases u <;> first | exact ih us (fun y => hA _) ha | exact ha.elim | skip
                · exact cnd_mono' (fun h1 => ih us (fun y => hA _) h1) id ha
                · rename_i p; cases p <;> first | exact ih us (fun y => hA _) ha | exact ha.elim
          exact pm ls vs.toList hA ha
    exact tm x.2 _ (fun y h1 => proj_mono r e (fun z => hK (y, z)) h1) hk

/-! ### Code -/

omit hC in
theorem xthen_mono {n n' : Env → Hp → Prop} {Q Q' : Post} {x : Exit} {e : Env} {h : Hp} (hn : n e h → n' e h) (hQ : Q x e h → Q' x e h) (hk : xthen n Q x e h) : xthen n' Q' x e h := by
  cases x with
  | normal => exact hn hk
  | _ => exact hQ hk

def MonoY (Y : YT) : Prop := ∀ vs h (K K' : Bool → Hp → Prop), (∀ b h, K b h → K' b h) → Y vs h K → Y vs h K'

omit hC in
theorem MonoY.yct {Y : YT} (h : MonoY Y) : MonoC (yct Y) := fun vs hp K K' hK hk => h vs hp _ _ (fun b h => hK _ h) hk

def MonoT (T : ITab) : Prop := ∀ g it, (g, it) ∈ T → ∀ Y, MonoY Y → MonoC (it Y)

omit hC in
theorem MonoT.nil : MonoT [] := fun _ _ h => by cases h

omit hC in
theorem itl_mono : ∀ (T : ITab), MonoT T → ∀ f Y, MonoY Y → MonoC (itl T f Y)
  | [], _, _, _, _ => fun _ _ _ _ _ hk => hk
  | (g, c) :: r, hT, f, Y, hY => by
    intro vs h K K' hK hk
    unfold itl at hk ⊢
    cases hb : Nat.beq f g with
    | true => rw [hb] at hk; exact hT g c (by simp) Y hY vs h K K' hK hk
    | false => rw [hb] at hk; exact itl_mono r (fun f c hm => hT f c (by simp [hm])) f Y hY vs h K K' hK hk

omit hC in
theorem ylam_mono {f : Nat → List Value → Hp → (Bool → Hp → Prop) → Prop} (hf : ∀ l as h (K K' : Bool → Hp → Prop), (∀ b h, K b h → K' b h) → f l as h K → f l as h K') : MonoY (ylam f) := by
  intro vs h K K' hK hk
  unfold ylam at hk ⊢
  split at hk
  · exact hf _ _ _ _ _ hK hk
  · exact hk.elim

omit hC in
theorem proj1_mono (t : Ty) (o : Option Value) {A A' : t.T → Prop} (hA : ∀ x, A x → A' x) (ha : t.proj o A) : t.proj o A' := by
  cases t with
  | sc l =>
    cases o with
    | none => exact ha.elim
    | some v =>
      cases l <;> cases v <;> first | exact hA _ ha | exact ha.elim | skip
      · exact cnd_mono' (hA _) id ha
      · rename_i p; cases p <;> first | exact hA _ ha | exact ha.elim
  | ag ls =>
    cases o with
    | none => exact ha.elim
    | some v =>
      cases v <;> first | exact ha.elim | skip
      rename_i vs
      have pm : ∀ (ls : List LK) (us : List Value) {A A' : LKs ls → Prop}, (∀ x, A x → A' x) → projs ls us A → projs ls us A' := by
        intro ls
        induction ls with
        | nil => intro us A A' hA ha; cases us <;> first | exact hA _ ha | exact ha.elim
        | cons l ls ih =>
          intro us A A' hA ha
          cases us with
          | nil => exact ha.elim
          | cons u us =>
            simp only [projs] at ha ⊢
            cases l <;> cases u <;> first | exact ih us (fun y => hA _) ha | exact ha.elim | skip
            · exact cnd_mono' (fun h1 => ih us (fun y => hA _) h1) id ha
            · rename_i p; cases p <;> first | exact ih us (fun y => hA _) ha | exact ha.elim
      exact pm ls vs.toList hA ha

omit hC in
theorem projA_mono : ∀ (L : Lv) (vs : List Value) {K K' : Tup L → Prop}, (∀ s, K s → K' s) → projA L vs K → projA L vs K'
  | [], [], _, _, hK, hk => hK _ hk
  | [], _ :: _, _, _, _, hk => hk.elim
  | _ :: _, [], _, _, _, hk => hk.elim
  | x :: r, v :: vs, K, K', hK, hk => by
    unfold projA at hk ⊢
    exact proj1_mono x.2 _ (fun y h1 => projA_mono r vs (fun z => hK (y, z)) h1) hk

omit hC in
theorem xends_mono {l : Nat} {r : Loop} {Q Q' : Post} {e : Env} {h : Hp} (hQ : ∀ x h, Q x e h → Q' x e h) : ∀ (cs : List (Option Nat)), xends l r Q e h cs → xends l r Q' e h cs
  | [], hk => ⟨hk.1, hQ _ _ hk.2⟩
  | none :: cs, hk => hk.imp (fun h1 => ⟨h1.1, hQ _ _ h1.2⟩) (xends_mono hQ cs)
  | some _ :: cs, hk => hk.imp (fun h1 => ⟨h1.1, hQ _ _ h1.2⟩) (xends_mono hQ cs)

omit hC in
theorem xround_mono {l : Nat} {r : Loop} {K K' : Bool → Hp → Prop} (hK : ∀ b h, K b h → K' b h) {x : Exit} {e : Env} {h : Hp} (hk : xround l r K x e h) : xround l r K' x e h := by
  cases x <;> first | exact hk.elim | exact ⟨hk.1, hK _ _ hk.2⟩

theorem xcode_mono : ∀ (c : Code) (T : ITab), MonoT T → ∀ (an : An) (Q Q' : Post) (e : Env) (h : Hp), (∀ x e' h', Agr (mods c) e e' → Q x e' h' → Q' x e' h') → xcode P C T c an Q e h → xcode P C T c an Q' e h := by
  intro c
  induction c with
  | skip => intro T hT an Q Q' e h hQ hk; exact hQ _ _ _ (Agr.refl _ _) hk
  | label l => intro T hT an Q Q' e h hQ hk; exact hQ _ _ _ (Agr.refl _ _) hk
  | exit id => intro T hT an Q Q' e h hQ hk; exact hQ _ _ _ (Agr.refl _ _) hk
  | ret => intro T hT an Q Q' e h hQ hk; exact hQ _ _ _ (Agr.refl _ _) hk
  | region id ops draw => intro T hT an Q Q' e h hQ hk; exact xregion_mono hC (fun e' h' ha hq => hQ _ _ _ ha hq) hk
  | seq a b iha ihb =>
    intro T hT an Q Q' e h hQ hk
    have ha : ∀ e', Agr (mods a) e e' → Agr (mods (a.seq b)) e e' := fun e' hh => hh.mono fun i hi => by simp [mods, hi]
    have hb : ∀ e1 e', Agr (mods b) e1 e' → Agr (mods (a.seq b)) e1 e' := fun e1 e' hh => hh.mono fun i hi => by simp [mods, hi]
    simp only [xcode] at hk ⊢
    split at hk
    · refine iha T hT an.l _ _ e h (fun x e' h' hag hq => ?_) hk
      refine xthen_mono (fun h1 => ?_) (fun h1 => hQ x e' h' (ha e' hag) h1) hq
      exact ihb T hT an.r Q Q' e' h' (fun x e2 h2 hag2 hq2 => hQ x e2 h2 ((ha e' hag).trans (hb e' e2 hag2)) hq2) h1
    · rename_i L hL
      split at hk
      · rename_i hin
        refine iha T hT an.l _ _ e h (fun x e' h' hag hq => ?_) hk
        refine xthen_mono (fun h1 => ?_) (fun h1 => hQ x e' h' (ha e' hag) h1) hq
        exact proj_mono L e' (fun s hs => ihb T hT an.r Q Q' _ h' (fun x e2 h2 hag2 hq2 => hQ x e2 h2 ((ha _ (agr_mk e (mods a) L s hin)).trans (hb _ e2 hag2)) hq2) hs) h1
      · exact hk.elim
  | cond c a b iha ihb =>
    intro T hT an Q Q' e h hQ hk
    simp only [xcode] at hk ⊢
    split at hk
    case h_2 => exact hk.elim
    rename_i t ht
    have hsub : ∀ u, t = u → Agr (mods (Code.cond c a b)) e (sub e c u) := by
      intro u hu
      subst hu
      cases c with
      | tmp d => exact Agr.same _ e d _ ht
      | _ => exact Agr.refl _ e
    cases t with
    | true => exact iha T hT an.l Q Q' _ h (fun x e' h' hag hq => hQ x e' h' ((hsub true rfl).trans (hag.mono fun i hi => by simp [mods, hi])) hq) hk
    | false => exact ihb T hT an.r Q Q' _ h (fun x e' h' hag hq => hQ x e' h' ((hsub false rfl).trans (hag.mono fun i hi => by simp [mods, hi])) hq) hk
  | block id a ih =>
    intro T hT an Q Q' e h hQ hk
    refine ih T hT an.l _ _ e h (fun x e' h' hag hq => ?_) hk
    cases x with
    | exit j =>
      simp only [xin] at hq ⊢
      split at hq
      · exact hQ _ _ _ hag hq
      · exact hQ _ _ _ hag hq
    | _ => exact hQ _ _ _ hag hq
  | scope a ih => intro T hT an Q Q' e h hQ hk; exact ih T hT an.l Q Q' e h hQ hk
  | loop a ih =>
    intro T hT an Q Q' e h hQ hk
    simp only [xcode] at hk ⊢
    split at hk
    · exact hk
    · rename_i L hL
      split at hk
      · rename_i hin
        refine proj_mono L e (fun s0 hs0 => ?_) hk
        obtain ⟨n, hn⟩ := hs0
        refine ⟨n, ?_⟩
        revert hn
        generalize s0 = s
        generalize h = h
        induction n generalizing s h with
        | zero => exact id
        | succ n ihn =>
          intro hn
          refine ih T hT an.l _ _ _ h (fun x e' h' hag hq => ?_) hn
          refine xthen_mono (fun h1 => ?_) (fun h1 => hQ x e' h' ((agr_mk e (mods a) L s hin).trans hag) h1) hq
          exact proj_mono L e' (fun s' hs' => ihn s' h' hs') h1
      · exact hk.elim
  | rangeFunc g ps asn bd iha ihb =>
    intro T hT an Q Q' e h hQ hk
    simp only [xcode] at hk ⊢
    split at hk
    case h_2 => exact hk.elim
    split at hk
    case h_2 => exact hk.elim
    intro r
    refine itl_mono T hT _ _ (ylam_mono fun l as h K K' hK hk => ?_) _ _ _ _ (fun v h2 hq => xends_mono (fun x h hx => hQ x e h (Agr.refl _ _) hx) _ hq) (hk r)
    refine projA_mono _ as (fun s hs => ⟨hs.1, ?_⟩) hk
    refine iha [] MonoT.nil an.l _ _ _ _ (fun x e' h' _ hq => ?_) hs.2
    cases x with
    | normal => exact ⟨hq.1, ihb [] MonoT.nil an.r _ _ _ _ (fun x e' h' _ hq => xround_mono hK hq) hq.2⟩
    | _ => exact hq.elim
  | _ => intro T hT an Q Q' e h hQ hk; exact hk.elim

omit hC in
theorem xresults_mono {e : Env} {h : Hp} : ∀ (rs : List ResultVar) {K K' : List Value → Prop}, (∀ vs, K vs → K' vs) → xresults P rs e h K → xresults P rs e h K'
  | [], _, _, hK, hk => hK _ hk
  | .tmp t :: r, _, _, hK, hk => by
    simp only [xresults] at *
    split at hk
    · exact xresults_mono r (fun _ h1 => hK _ h1) hk
    · exact hk.elim
  | .cell a t :: r, _, _, hK, hk => by
    simp only [xresults] at *
    split at hk
    · exact xload_mono (fun _ h0 => xresults_mono r (fun _ h1 => hK _ h1) h0) hk
    · exact hk.elim

theorem xfn_mono {T : ITab} (hT : MonoT T) {fn : Func} {an : An} {vs : List Value} {h : Hp} {K K' : Value → Hp → Prop} (hK : ∀ v h, K v h → K' v h) (hk : xfn P C T fn an vs h K) : xfn P C T fn an vs h K' := by
  unfold xfn at *
  split at hk
  · refine xcode_mono hC _ _ hT _ _ _ _ _ (fun x e' h' _ hq => ?_) hk
    cases x <;> first | exact hq.elim | exact xresults_mono _ (fun vs h1 => hK _ _ h1) hq
  · exact hk.elim

end
end Go.Hx
