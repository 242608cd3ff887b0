/- An operation that only reads: if its condition holds the model's run yields such a value, in every world in which the cells that it read hold what they held. No condition. -/
import Derived.Test.YthohhnnjpaepnaaHxSoundC
namespace Go.Hx
set_option linter.unusedSimpArgs false
set_option linter.unusedVariables false
open Go.RowKit

def HoldsW (F : Held) (w : World) : Prop := ∀ x ∈ F, Lies w x.2.1 x.2.2
def HoldsH (F : Held) (h : Hp) : Prop := ∀ x ∈ F, LiesH h x.2.1 x.2.2

theorem HoldsH.abs {F : Held} {B : Nat} {w : World} (h : HoldsH F (absW B w)) : HoldsW F w := fun x hx => (h x hx).abs

theorem run_elem {P : Program} {t e : TypeId} (h : P.underlying t = some (.slice e)) (w : World) : (underlying t).run P w = .ok (.slice e) w := run_underlying' h w

theorem int_arg {ev : Operand → Option Value} {ρ : Operand → Value} (hr : ∀ x v, ev x = some v → ρ x = v) {o : Option Operand} {m : Option Int} (h : oint ev o = some m) :
    (o = none ∧ m = none) ∨ ∃ x k n, o = some x ∧ m = some n ∧ ρ x = .int k n := by
  cases o with
  | none => simp [oint] at h; exact .inl ⟨rfl, h.symm⟩
  | some x =>
    simp only [oint] at h
    cases hx : ev x with
    | none => simp [hx] at h
    | some v =>
      cases v <;> simp [hx] at h
      rename_i k n
      exact .inr ⟨x, k, n, rfl, h.symm, hr x _ hx⟩

theorem cells_pos {P : Program} {t : TypeId} (h : Nat.ble 1 (P.cellsOf t) = true) : ∃ i, P.info? t = some i := by
  have := Nat.le_of_ble_eq_true h
  unfold Program.cellsOf at this
  cases hi : P.info? t with
  | none => simp [hi] at this
  | some i => exact ⟨i, rfl⟩

theorem run_bound {P : Program} (w : World) (k : IntKind) (i : Int) (y : Nat) (c : BoundsCode) (h0 : 0 ≤ i) (h1 : i ≤ (y : Int)) :
    (Instr.sliceBound (.int k i) y c).run P w = .ok i.toNat w := by
  simp [Instr.sliceBound, asIntOf, h0, h1]

theorem run_bounds {P : Program} {ev : Operand → Option Value} {ρ : Operand → Value} (hr : ∀ x v, ev x = some v → ρ x = v) (w : World) (n c : Nat)
    {lo hi mx : Option Operand} {l h m : Option Int} (hlo : oint ev lo = some l) (hhi : oint ev hi = some h) (hmx : oint ev mx = some m)
    (hsome : mx.isSome = true → hi.isSome = true) (c1 : 0 ≤ l.getD 0) (c2 : l.getD 0 ≤ h.getD n) (c3 : h.getD n ≤ m.getD c) (c4 : m.getD c ≤ c) :
    (Instr.sliceBounds true n c (lo.map ρ) (hi.map ρ) (mx.map ρ)).run P w = .ok ((l.getD 0).toNat, (h.getD n).toNat, (m.getD c).toNat) w := by
  rcases int_arg hr hmx with ⟨rfl, rfl⟩ | ⟨xm, km, nm, rfl, rfl, em⟩
  · rcases int_arg hr hhi with ⟨rfl, rfl⟩ | ⟨xh, kh, nh, rfl, rfl, eh⟩
    · rcases int_arg hr hlo with ⟨rfl, rfl⟩ | ⟨xl, kl, nl, rfl, rfl, el⟩
      · simp [Instr.sliceBounds]
      · simp only [Option.getD_some, Option.getD_none] at c1 c2 c3 c4
        simp [Instr.sliceBounds, el, run_bound w kl nl n _ c1 c2]
    · rcases int_arg hr hlo with ⟨rfl, rfl⟩ | ⟨xl, kl, nl, rfl, rfl, el⟩
      · simp only [Option.getD_some, Option.getD_none] at c1 c2 c3 c4
        simp [Instr.sliceBounds, eh, run_bound w kh nh c _ (by omega) c3]
      · simp only [Option.getD_some, Option.getD_none] at c1 c2 c3 c4
        simp [Instr.sliceBounds, el, eh, run_bound w kh nh c _ (by omega) c3, run_bound w kl nl nh.toNat _ c1 (by omega)]
  · rcases int_arg hr hhi with ⟨rfl, rfl⟩ | ⟨xh, kh, nh, rfl, rfl, eh⟩
    · simp at hsome
    · rcases int_arg hr hlo with ⟨rfl, rfl⟩ | ⟨xl, kl, nl, rfl, rfl, el⟩
      · simp only [Option.getD_some, Option.getD_none] at c1 c2 c3 c4
        simp [Instr.sliceBounds, em, eh, run_bound w km nm c _ (by omega) c4, run_bound w kh nh nm.toNat _ (by omega) (by omega)]
      · simp only [Option.getD_some] at c1 c2 c3 c4
        simp [Instr.sliceBounds, el, em, eh, run_bound w km nm c _ (by omega) c4, run_bound w kh nh nm.toNat _ (by omega) (by omega), run_bound w kl nl nh.toNat _ c1 (by omega)]

theorem xslice_ok {P : Program} {t : TypeId} {v : Value} {ev : Operand → Option Value} {ρ : Operand → Value} (hr : ∀ x v, ev x = some v → ρ x = v)
    {lo hi mx : Option Operand} {l h m : Option Int} (hlo : oint ev lo = some l) (hhi : oint ev hi = some h) (hmx : oint ev mx = some m)
    (hsome : mx.isSome = true → hi.isSome = true) {K : Value → Prop} (hk : xslice P t v l h m K) :
    ∃ r, K r ∧ ∀ w, (Instr.sliceAt t v (lo.map ρ) (hi.map ρ) (mx.map ρ)).run P w = .ok r w := by
  unfold xslice at hk
  split at hk
  case h_2 => exact hk.elim
  rename_i e a n c hu
  cases hb : Nat.ble 1 (P.cellsOf e) with
  | false => simp only [hb] at hk
  | true =>
    obtain ⟨i, hi'⟩ := cells_pos hb
    simp only [hb, cut] at hk
    obtain ⟨c1, c2, c3, c4, hK⟩ := hk
    refine ⟨_, hK, fun w => ?_⟩
    have hB := run_bounds (P := P) hr w n c hlo hhi hmx hsome c1 c2 c3 c4
    simp only [Instr.sliceAt, Instr.slice, Sem.run_bind, run_elem hu, Result.andThen_ok, hB, run_sizeOf hi', Sem.run_pure]
    congr 1
    have e1 : ((m.getD c).toNat = (l.getD 0).toNat) = (m.getD (c : Int) = l.getD 0) := by
      apply propext; constructor <;> intro h' <;> omega
    have e2 : (h.getD (n : Int)).toNat - (l.getD 0).toNat = (h.getD (n : Int) - l.getD 0).toNat := by omega
    have e3 : (m.getD (c : Int)).toNat - (l.getD 0).toNat = (m.getD (c : Int) - l.getD 0).toNat := by omega
    simp only [e1, e2, e3]

def XV (P : Program) (ρ : Operand → Value) (op : Op) (K : Value → Prop) : Prop :=
  ∃ v, K v ∧ ∀ (o : Oper) (w : World), o.op = op → (execOp ρ o).run P w = .ok (.value v) w

section
variable {P : Program} {ev : Operand → Option Value} {ρ : Operand → Value} {h : Hp} {K : Value → Prop}

theorem run_places (fs : Array Field) (w : World) (hf : ∀ f ∈ fs, ∃ i, P.info? f.type = some i) :
    (fs.mapM fun f => do pure (f.offset, ← sizeOf f.type) : Sem (Array (Nat × Nat))).run P w = .ok (fs.map fun f => (f.offset, P.cellsOf f.type)) w := by
  rw [Array.mapM_eq_mapM_toList]
  have key : ∀ (l : List Field), (∀ f ∈ l, ∃ i, P.info? f.type = some i) →
      (l.mapM (fun f => do pure (f.offset, ← sizeOf f.type)) : Sem (List (Nat × Nat))).run P w = .ok (l.map fun f => (f.offset, P.cellsOf f.type)) w := by
    intro l
    induction l with
    | nil => intro _; simp
    | cons f l ih =>
      intro hl
      obtain ⟨i, hi⟩ := hl f (by simp)
      have ih' := ih (fun g hg => hl g (by simp [hg]))
      simp only [bind_pure_comp] at ih'
      simp [run_sizeOf hi, ih']
  have := key fs.toList (fun f h => hf f (by simpa using h))
  simp only [Sem.run_map, this, Result.andThen_ok]
  congr 1
  apply Array.ext'
  simp

theorem xv_build (hr : ∀ x v, ev x = some v → ρ x = v) (t : TypeId) (parts : Array (Nat × Operand)) (hk : xval P (.build t parts) ev h K) : XV P ρ (.build t parts) K := by
  simp only [xval] at hk
  cases hp : xevp ev parts.toList with
  | none => simp [hp] at hk
  | some ps =>
    cases hz : zeroOf P t with
    | none => simp [hp, hz] at hk
    | some z =>
      simp only [hp, hz] at hk
      split at hk
      case h_2 => exact hk.elim
      rename_i cs hag hf
      refine ⟨_, hk, fun o w ho => ?_⟩
      have hparts : (parts.map fun (i, x) => (i, ρ x)).toList = ps := by
        have := xevp_ok hr _ _ hp
        simpa using this
      have hzi : ∃ i, P.info? t = some i ∧ i.zero = some z := by
        unfold zeroOf at hz
        cases hi : P.info? t with
        | none => simp [hi] at hz
        | some i => exact ⟨i, rfl, by simpa [hi] using hz⟩
      obtain ⟨i, hi, hz'⟩ := hzi
      have hfill := fill_ok (placesOf P t) ps z.cells cs hf
      have hpa : (parts.map fun (i, x) => (i, ρ x)) = ps.toArray := Array.ext' (by simpa using hparts)
      have hzv : (zeroValue t).run P w = .ok z w := by simp [zeroValue, typeInfo, hi, hz']
      unfold buildOk at hag
      unfold placesOf at hfill
      split at hag
      · rename_i fs hu
        rw [hu] at hfill
        have hpl := run_places fs w (fun f hf => Option.isSome_iff_exists.1 (List.all_eq_true.1 hag f (by simpa using hf)))
        have hfun : (fun (x : Nat) => (fs.map fun (f : Field) => (f.offset, P.cellsOf f.type))[x]?) = fun (i : Nat) => (fs[i]?).map fun (f : Field) => (f.offset, P.cellsOf f.type) := by
          funext x; simp
        simp only [execOp, ho, Sem.run_bind, Instr.build, hpa, hzv, Result.andThen_ok, run_underlying' hu, hpl, hfun, hfill, Sem.run_pure]
      · rename_i n e hu
        rw [hu] at hfill
        obtain ⟨ie, hie⟩ := Option.isSome_iff_exists.1 hag
        simp only [execOp, ho, Sem.run_bind, Instr.build, hpa, hzv, Result.andThen_ok, run_underlying' hu, run_sizeOf hie, hfill, Sem.run_pure]
      · cases hag

theorem run_partL {t : TypeId} {cs : Array Value} {o : Nat} {v : Value} (hb : tyOk P t = true) (hp : partL P t cs.toList o = some v) (w : World) : (part t cs o).run P w = .ok v w := by
  simp only [tyOk, Bool.and_eq_true] at hb
  obtain ⟨i, hi⟩ := cells_pos hb.1
  obtain ⟨d, hd⟩ := Option.isSome_iff_exists.1 hb.2
  unfold partL at hp
  split at hp
  · rename_i ha
    cases hp
    simp only [part, Sem.run_bind, run_isAgg hd, Result.andThen_ok, ha, if_true, run_sizeOf hi, Sem.run_pure]
    congr 2
    apply Array.ext'
    simp
  · rename_i ha
    have : cs[o]? = some v := by simpa using hp
    simp [part, run_isAgg hd, ha, this]

theorem sel_ok : ∀ (vs : List Value) (j : Nat) (q : Int), sel K q vs j → (j : Int) ≤ q → q < (j + vs.length : Nat) → ∃ v, vs[q.toNat - j]? = some v ∧ K v
  | [], j, q, _, h0, h1 => by simp at h1; omega
  | v :: vs, j, q, hs, h0, h1 => by
    by_cases he : q = (j : Int)
    · exact ⟨v, by subst he; simp, hs.1 he⟩
    · obtain ⟨u, hu, hK⟩ := sel_ok vs (j + 1) q hs.2 (by omega) (by simp at h1 ⊢; omega)
      refine ⟨u, ?_, hK⟩
      have : q.toNat - j = (q.toNat - (j + 1)) + 1 := by omega
      rw [this]; simpa using hu

theorem xval_ok (hr : ∀ x v, ev x = some v → ρ x = v) (hc : ∀ v, ρ (.const v) = v) (i : Nat) {op : Op} (hk : xval P op ev h K) :
    ∃ v, K v ∧ HoldsH (heldBy i op ev v) h ∧ ∀ (o : Oper) (w : World), o.op = op → HoldsW (heldBy i op ev v) w → (execOp ρ o).run P w = .ok (.value v) w := by
  have lift : XV P ρ op K → (∀ v, heldBy i op ev v = []) → ∃ v, K v ∧ HoldsH (heldBy i op ev v) h ∧ ∀ (o : Oper) (w : World), o.op = op → HoldsW (heldBy i op ev v) w → (execOp ρ o).run P w = .ok (.value v) w :=
    fun ⟨v, hK, hx⟩ hn => ⟨v, hK, (by rw [hn]; intro x hx; cases hx), fun o w ho _ => hx o w ho⟩
  cases op with
  | move x =>
    refine lift ?_ (fun _ => rfl)
    simp only [xval] at hk
    split at hk
    · rename_i v hv; exact ⟨v, hk, fun o w ho => by simp [execOp, ho, hr x v hv]⟩
    · exact hk.elim
  | assign x =>
    refine lift ?_ (fun _ => rfl)
    simp only [xval] at hk
    split at hk
    · rename_i v hv; exact ⟨v, hk, fun o w ho => by simp [execOp, ho, hr x v hv]⟩
    · exact hk.elim
  | pick c a b =>
    refine lift ?_ (fun _ => rfl)
    simp only [xval] at hk
    split at hk
    · rename_i hc
      split at hk
      · rename_i v hv; exact ⟨v, hk, fun o w ho => by simp [execOp, ho, hr c _ hc, asBool, hr a v hv]⟩
      · exact hk.elim
    · rename_i hc
      split at hk
      · rename_i v hv; exact ⟨v, hk, fun o w ho => by simp [execOp, ho, hr c _ hc, asBool, hr b v hv]⟩
      · exact hk.elim
    · exact hk.elim
  | build t parts => exact lift (xv_build hr t parts hk) (fun _ => rfl)
  | load t a =>
    simp only [xval] at hk
    split at hk
    · rename_i ad ha
      obtain ⟨v, hK, hL, hrun⟩ := xload_ok hk
      have hb : heldBy i (.load t a) ev v = [(i, ad, v.cells.toList)] := by simp [heldBy, ha]
      refine ⟨v, hK, ?_, fun o w ho hw => ?_⟩
      · rw [hb]; intro x hx; simp at hx; subst hx; exact hL
      · rw [hb] at hw
        have := hrun w (hw (i, ad, v.cells.toList) (by simp))
        simp [execOp, ho, Instr.loadAt, Instr.sureAddr, hr a _ ha, this]
    · exact hk.elim
  | nilCheck x =>
    refine lift ?_ (fun _ => rfl)
    simp only [xval] at hk
    split at hk
    · rename_i p hp
      obtain ⟨a, rfl, hK⟩ := hk
      exact ⟨_, hK, fun o w ho => by simp [execOp, ho, hr x _ hp]⟩
    · rename_i f fi c hp
      exact ⟨_, hk, fun o w ho => by simp [execOp, ho, hr x _ hp]⟩
    · rename_i f fi c hp
      exact ⟨_, hk, fun o w ho => by simp [execOp, ho, hr x _ hp]⟩
    · exact hk.elim
  | binOp op t x y u =>
    refine lift ?_ (fun _ => rfl)
    simp only [xval] at hk
    split at hk
    · rename_i a b ha hb
      split at hk
      · rename_i r h1 h2
        simp only [Bool.and_eq_true, Bool.not_eq_true'] at h1
        have he := xeqs_ok h1.1.2 h2
        cases op with
        | eql => exact ⟨_, hk, fun o w ho => by simp [execOp, ho, hr x _ ha, hr y _ hb, run_eqGuard_agg w .eql t x y a b h1.2, run_eql_struct w t a b, he w]⟩
        | neq => exact ⟨_, hk, fun o w ho => by simp [execOp, ho, hr x _ ha, hr y _ hb, run_eqGuard_agg w .neq t x y a b h1.2, run_neq_struct w t a b, he w]⟩
        | _ => exact hk.elim
      · exact hk.elim
    · rename_i a b hn ha hb
      obtain ⟨v, hK, n1, n2, hrun⟩ := xbin_ok hk
      exact ⟨v, hK, fun o w ho => by simp [execOp, ho, hr x _ ha, hr y _ hb, run_eqGuard_plain op t x y a b n1 n2, hrun w]⟩
    · exact hk.elim
  | unOp op u x =>
    refine lift ?_ (fun _ => rfl)
    simp only [xval] at hk
    split at hk
    · rename_i b hb; exact ⟨_, hk, fun o w ho => by simp [execOp, ho, hr x _ hb, Op.unary]⟩
    · rename_i k n hn; exact ⟨_, hk, fun o w ho => by simp [execOp, ho, hr x _ hn, Op.unary, Op.intArith]⟩
    · exact hk.elim
  | convert s d x =>
    refine lift ?_ (fun _ => rfl)
    simp only [xval] at hk
    split at hk
    · rename_i d1 k j n h1 h2 h3
      exact ⟨_, hk, fun o w ho => by simp [execOp, ho, hr x _ h3, convert, run_underlying' h1, run_underlying' h2, Conv.intToInt]⟩
    · exact hk.elim
  | makeFunc fn fi c =>
    refine lift ?_ (fun _ => rfl)
    simp only [xval] at hk
    split at hk
    · rename_i a b h1 h2
      exact ⟨_, hk, fun o w ho => by simp [execOp, ho, Instr.makeFunc, xevs_arr hr _ _ h1, xevs_arr hr _ _ h2]⟩
    · exact hk.elim
  | slice t x lo hi mx =>
    refine lift ?_ (fun _ => rfl)
    simp only [xval] at hk
    split at hk
    · rename_i v l hh m h1 h2 h3 h4
      split at hk
      · rename_i hs
        obtain ⟨r, hK, hrun⟩ := xslice_ok hr h2 h3 h4 (by intro hm; simpa [hm] using hs) hk
        exact ⟨r, hK, fun o w ho => by simp [execOp, ho, hr x _ h1, hrun w]⟩
      · exact hk.elim
    · exact hk.elim
  | fieldAddr s x f =>
    refine lift ?_ (fun _ => rfl)
    simp only [xval] at hk
    split at hk
    · rename_i fs a h1 h2
      split at hk
      · rename_i g hg
        split at hk
        · rename_i hz
          have hne : P.cellsOf g.type ≠ 0 := fun h0 => by rw [h0] at hz; cases hz
          have hi : ∃ i, P.info? g.type = some i := by
            unfold Program.cellsOf at hne
            cases hi : P.info? g.type with
            | none => simp [hi] at hne
            | some i => exact ⟨i, rfl⟩
          obtain ⟨i, hi⟩ := hi
          exact ⟨_, hk, fun o w ho => by simp [execOp, ho, hr x _ h2, Instr.fieldAt, run_underlying' h1, hg, Instr.sureAddr, fieldPlace, run_sizeOf hi, hne]⟩
        · exact hk.elim
      · exact hk.elim
    · exact hk.elim
  | field t x f =>
    refine lift ?_ (fun _ => rfl)
    simp only [xval] at hk
    split at hk
    · rename_i fs cs h1 h2
      split at hk
      · rename_i g hg
        split at hk
        · rename_i v hb hp
          exact ⟨v, hk, fun o w ho => by simp [execOp, ho, hr x _ h2, Instr.field, run_underlying' h1, hg, asAgg, run_partL hb hp]⟩
        · exact hk.elim
      · exact hk.elim
    · exact hk.elim
  | indexAddr t x j =>
    refine lift ?_ (fun _ => rfl)
    simp only [xval] at hk
    split at hk
    · rename_i e a n c k q h1 h2 h3
      split at hk
      · rename_i hb
        obtain ⟨i, hi⟩ := cells_pos hb
        obtain ⟨b, rfl, g0, g1, hK⟩ := hk
        exact ⟨_, hK, fun o w ho => by simp [execOp, ho, hr x _ h2, hr j _ h3, Instr.indexAt, asIntOf, run_underlying' h1, g0, g1, run_sizeOf hi]⟩
      · exact hk.elim
    · rename_i n e a k q h1 h2 h3
      split at hk
      · rename_i hb
        obtain ⟨i, hi⟩ := cells_pos hb
        obtain ⟨g0, g1, hK⟩ := hk
        exact ⟨_, hK, fun o w ho => by simp [execOp, ho, hr x _ h2, hr j _ h3, Instr.indexAt, asIntOf, run_underlying' h1, Instr.sureAddr, g0, g1, run_sizeOf hi]⟩
      · exact hk.elim
    · exact hk.elim
  | index t x j =>
    refine lift ?_ (fun _ => rfl)
    simp only [xval] at hk
    split at hk
    · rename_i n e cs k q h1 h2
      split at hk
      · rename_i v hb hp
        simp only [Bool.and_eq_true, decide_eq_true_eq] at hb
        have hlt := Nat.le_of_ble_eq_true hb.1.2
        have hq : ρ (.const (.int k q)) = .int k q := hc _
        obtain ⟨i, hi⟩ := cells_pos (by have := hb.1.1; simp only [tyOk, Bool.and_eq_true] at this; exact this.1)
        have h0 : 0 ≤ q := hb.2
        have h3 : q < (n : Int) := by omega
        exact ⟨v, hk, fun o w ho => by simp [execOp, ho, hr x _ h2, hq, Instr.index, asIntOf, run_underlying' h1, h0, h3, run_sizeOf hi, run_partL hb.1.1 hp]⟩
      · exact hk.elim
    · rename_i n e cs h1 h2 hne
      split at hk
      · rename_i k q hq
        split at hk
        · rename_i h3 h4 h5
          simp only [Bool.and_eq_true] at h4
          obtain ⟨g0, g1, hs⟩ := hk
          have hl : cs.toList.length = n := Nat.eq_of_beq_eq_true h5
          have h1' : P.cellsOf e = 1 := Nat.eq_of_beq_eq_true h4.1
          obtain ⟨v, hv, hK⟩ := sel_ok cs.toList 0 q hs (by omega) (by omega)
          obtain ⟨i, hi⟩ := cells_pos (by have := h4.2; simp only [tyOk, Bool.and_eq_true] at this; exact this.1)
          have hp : partL P e cs.toList (q.toNat * P.cellsOf e) = some v := by
            unfold partL; rw [h3, h1']; simpa using hv
          exact ⟨v, hK, fun o w ho => by simp [execOp, ho, hr x _ h2, hr _ _ hq, Instr.index, asIntOf, run_underlying' h1, g0, g1, run_sizeOf hi, run_partL h4.2 hp]⟩
        · exact hk.elim
      · exact hk.elim
    · exact hk.elim
  | extract t j =>
    refine lift ?_ (fun _ => rfl)
    simp only [xval] at hk
    split at hk
    · rename_i vs h1
      split at hk
      · rename_i v hv
        have hv' : vs[j]? = some v := by simpa using hv
        exact ⟨v, hk, fun o w ho => by simp [execOp, ho, hr t _ h1, Instr.extract, hv']⟩
      · exact hk.elim
    · exact hk.elim
  | call c =>
    refine lift ?_ (fun _ => rfl)
    simp only [xval] at hk
    split at hk
    · rename_i v hc hv
      split at hk
      · rename_i u r ht
        have hargs : c.args.map ρ = #[v] := xevs_arr hr _ _ hv
        have hty : c.argTypes[0]? = some u := by rw [← Array.getElem?_toList, ht]; rfl
        unfold xlen at hk
        split at hk
        · rename_i e a n cc hu
          exact ⟨_, hk, fun o w ho => by simp [execOp, ho, resolve, hc, hargs, invoke, builtin, Builtin.len_, hty, run_underlying' hu, goInt]⟩
        · rename_i n e hu
          exact ⟨_, hk, fun o w ho => by simp [execOp, ho, resolve, hc, hargs, invoke, builtin, Builtin.len_, hty, run_underlying' hu, goInt]⟩
        · exact hk.elim
      · exact hk.elim
    · rename_i vs hc hv
      have hargs : c.args.map ρ = vs.toArray := xevs_arr hr _ _ hv
      unfold xmin at hk
      split at hk
      · rename_i k x j y
        exact ⟨_, hk, fun o w ho => by simp [execOp, ho, resolve, hc, hargs, invoke, builtin, Builtin.min_, Builtin.min2]⟩
      · exact hk.elim
    · rename_i vs hc hv
      have hargs : c.args.map ρ = vs.toArray := xevs_arr hr _ _ hv
      unfold xmax at hk
      split at hk
      · rename_i k x j y
        exact ⟨_, hk, fun o w ho => by simp [execOp, ho, resolve, hc, hargs, invoke, builtin, Builtin.max_, Builtin.max2]⟩
      · exact hk.elim
    · exact hk.elim
  | _ => exact hk.elim
end

end Go.Hx
