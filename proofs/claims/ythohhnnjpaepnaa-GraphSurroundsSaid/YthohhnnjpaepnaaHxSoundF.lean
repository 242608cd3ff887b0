/- Every operation: if its condition holds over the abstract heap, the kit's condition on the operation holds. The callees' conditions are what they are worth. -/
import Derived.Laws.Externs
import Derived.Test.YthohhnnjpaepnaaHxSoundE
import Derived.Test.YthohhnnjpaepnaaHxMono
import Derived.RangeFuncSeq
import Derived.RangeFuncCalls
namespace Go.Hx
set_option linter.unusedSimpArgs false
set_option linter.unusedVariables false
open Go.RowKit

/-- A function that is entered when it is called. -/
def callable (P : Program) (f : FuncId) : Bool := Nat.blt f ykey && match P.funcs[f]? with
  | some fn => fn.body.isSome && !(fn.name == "runtime.NumGoroutine")
  | none => false

theorem run_callFunc {P : Program} {f : FuncId} (h : callable P f = true) (args : Array Value) (w : World) : (callFunc f args).run P w = .ok (.enter f args) w := by
  unfold callable at h
  rw [Bool.and_eq_true] at h
  replace h := h.2
  cases hf : P.funcs[f]? with
  | none => simp [hf] at h
  | some fn =>
    simp only [hf, Bool.and_eq_true, Bool.not_eq_true'] at h
    have hb : fn.body.isNone = false := by cases hh : fn.body <;> simp_all
    have hn : ¬ fn.name = "runtime.NumGoroutine" := by simpa using h.2
    simp only [callFunc, Sem.run_bind, run_program, Result.andThen_ok, hf, h.2, Bool.false_eq_true, if_false, hb]
    rfl

/-- What the condition on a call of yield is worth. -/
def OkY (P : Program) (Y : YT) : Prop :=
  ∀ (B : Nat) (w : World) (l : Nat) (vs : List Value) (K : Bool → Hp → Prop), B ≤ w.heap.size → Y (.func (.yield l) #[] #[] :: vs) (absW B w) K →
    YieldAt Fence.wide 0 P l vs.toArray w fun e w' => ∃ b, e = .returned (.bool b) ∧ Bel B w w' ∧ K b (absW B w')

/-- A function that the model itself answers. -/
def OkX (P : Program) (f : Nat) (c : CT) : Prop :=
  ∀ (B : Nat) (w : World) (vs : List Value) (K : Value → Hp → Prop), B ≤ w.heap.size → c vs (absW B w) K →
    ∃ v w', (callFunc f vs.toArray).run P w = .ok (.value v) w' ∧ Bel B w w' ∧ K v (absW B w')

def OkEnt (P : Program) (f : Nat) (c : CT) : Prop := (OkFn P f c ∧ callable P f = true) ∨ (f = ykey ∧ ∃ Y, c = yct Y ∧ OkY P Y) ∨ (Nat.beq f ykey = false ∧ OkX P f c)

def OkTab (P : Program) (C : CTab) : Prop := ∀ f c, (f, c) ∈ C → OkEnt P f c ∧ MonoC c

theorem OkTab.mono {P : Program} {C : CTab} (h : OkTab P C) : ∀ f c, (f, c) ∈ C → MonoC c := fun f c hm => (h f c hm).2

theorem OkTab.nil (P : Program) : OkTab P [] := fun _ _ h => nomatch h

theorem OkTab.cons {P : Program} {C : CTab} {f : Nat} {c : CT} (h : OkFn P f c ∧ MonoC c) (hc : callable P f = true) (ht : OkTab P C) : OkTab P ((f, c) :: C) := by
  intro g d hm
  rcases List.mem_cons.1 hm with h' | h'
  · cases h'; exact ⟨.inl ⟨h.1, hc⟩, h.2⟩
  · exact ht g d h'

theorem OkTab.ext {P : Program} {C : CTab} {f : Nat} {c : CT} (h : OkX P f c ∧ MonoC c) (hc : Nat.beq f ykey = false) (ht : OkTab P C) : OkTab P ((f, c) :: C) := by
  intro g d hm
  rcases List.mem_cons.1 hm with h' | h'
  · cases h'; exact ⟨.inr (.inr ⟨hc, h.1⟩), h.2⟩
  · exact ht g d h'

theorem OkTab.yield {P : Program} {C : CTab} {Y : YT} (h : OkY P Y) (hm : MonoY Y) (ht : OkTab P C) : OkTab P ((ykey, yct Y) :: C) := by
  intro g d hm'
  rcases List.mem_cons.1 hm' with h' | h'
  · cases h'; exact ⟨.inr (.inl ⟨rfl, Y, rfl, h⟩), hm.yct⟩
  · exact ht g d h'

theorem not_callable_ykey {P : Program} (h : callable P ykey = true) : False := by
  unfold callable at h
  rw [Bool.and_eq_true] at h
  exact absurd h.1 (by decide)

/-- Fences of this text: no bound, in a round or not. -/
inductive Fok : Fence → Prop
  | wide : Fok Fence.wide
  | round (l : Nat) : Fok (Fence.wide.inRound l)

theorem Fok.fn {F : Fence} (h : Fok F) (f : FuncId) : F.fn f := by cases h <;> exact trivial
theorem Fok.depth {F : Fence} (h : Fok F) (n : Nat) : F.depth.isSome = true → 1 ≤ n := by cases h <;> (intro h; cases h)
theorem Fok.calls {F : Fence} (h : Fok F) {n : Nat} {P : Program} {f : FuncId} {args : Array Value} {w : World} {R : Ending → World → Prop} (hc : Calls P f args w R) : CallsIn F n P f args w R := by
  cases h with
  | wide => exact callsIn_wide.2 hc
  | round l => exact CallsIn.inRound l (callsIn_wide.2 hc)
theorem Fok.rounds {F : Fence} (h : Fok F) {m n : Nat} {P : Program} {l : Nat} {f : FuncId} {tmps : Array Value} {assign body : Code} {w : World} {R : Ending → World → Prop} (hc : RoundIn Fence.wide m P l f tmps assign body w R) :
    RoundIn F n P l f tmps assign body w R := by
  cases h with
  | wide => exact ⟨trivial, fun c cs _ => hc.2 c cs (room_wide _)⟩
  | round k => exact ⟨trivial, fun c cs _ => hc.2 c cs (room_wide _)⟩

theorem cls_mem : ∀ (C : CTab) (f : Nat) (vs : List Value) (h : Hp) (K : Value → Hp → Prop), cls C f vs h K → ∃ c, (f, c) ∈ C ∧ c vs h K
  | [], f, vs, h, K, hk => hk.elim
  | (g, c) :: r, f, vs, h, K, hk => by
    simp only [cls] at hk
    cases hb : Nat.beq f g with
    | true =>
      rw [hb] at hk
      have := Nat.eq_of_beq_eq_true hb
      subst this
      exact ⟨c, by simp, hk⟩
    | false =>
      rw [hb] at hk
      obtain ⟨d, hd, hk'⟩ := cls_mem r f vs h K hk
      exact ⟨d, by simp [hd], hk'⟩

/-- What an operation's run comes to: a value, nothing, or a call. -/
def Goes (P : Program) (B : Nat) (w : World) (K : Value → Hp → Prop) : Result Next → Prop
  | .ok (.value v) w' => Bel B w w' ∧ K v (absW B w')
  | .ok .skip w' => Bel B w w' ∧ K undef (absW B w')
  | .ok (.enter f args) w' => Bel B w w' ∧ Calls P f args w' fun e w'' => ∃ v, e = .returned v ∧ Bel B w' w'' ∧ K v (absW B w'')
  | .ok (.round l f tmps assign body) w' => Bel B w w' ∧ RoundIn Fence.wide 0 P l f tmps assign body w' fun e w'' => ∃ v, e = .returned v ∧ Bel B w' w'' ∧ K v (absW B w'')
  | _ => False

theorem Goes.wpIn {F : Fence} {n : Nat} (hF : Fok F) {P : Program} {B : Nat} {o : Oper} {a : Act} {w : World} {K : Value → Hp → Prop} {next : Act → World → Prop} {Q : Exit → Act → World → Prop}
    (hd : ∀ c, o.op ≠ .defer c) (hg : Goes P B w K ((execOp a.eval o).run P w)) (hn : ∀ v w', Bel B w w' → K v (absW B w') → next (a.put o.dst v) w') : o.wpIn F n P a w next Q := by
  unfold Oper.wpIn
  refine ⟨fun f _ => hF.fn f, ?_⟩
  rw [Oper.semAt_eq _ _ _ hd]
  generalize (execOp a.eval o).run P w = r at hg
  cases r with
  | halt x w' => exact hg.elim
  | ok n w' =>
    cases n with
    | value v => exact hn v w' hg.1 hg.2
    | skip => exact hn undef w' hg.1 hg.2
    | enter f args =>
      obtain ⟨hb, hc⟩ := hg
      exact ⟨hF.depth _, hF.calls (hc.mono fun e w'' ⟨v, he, hb', hK⟩ => by subst he; exact hn v w'' (hb.trans hb') hK)⟩
    | round l f tmps assign body =>
      obtain ⟨hb, hc⟩ := hg
      exact ⟨hF.depth _, hF.rounds (hc.mono fun e w'' ⟨v, he, hb', hK⟩ => by subst he; exact hn v w'' (hb.trans hb') hK)⟩
    | _ => exact hg.elim

section
variable {P : Program} {C : CTab} {ev : Operand → Option Value} {ρ : Operand → Value} {K : Value → Hp → Prop} {B : Nat} {w : World}

theorem goes_val (hr : ∀ x v, ev x = some v → ρ x = v) (hc : ∀ v, ρ (.const v) = v) {o : Oper} (hk : xval P o.op ev (absW B w) fun v => K v (absW B w)) : Goes P B w K ((execOp ρ o).run P w) := by
  obtain ⟨v, hK, hH, hrun⟩ := xval_ok hr hc 0 hk
  rw [hrun o w rfl hH.abs]
  exact ⟨Bel.refl B w, hK⟩

theorem zeroOf_info {t : TypeId} {z : Value} (h : zeroOf P t = some z) : ∃ i, P.info? t = some i ∧ i.zero = some z := by
  unfold zeroOf at h
  cases hi : P.info? t with
  | none => simp [hi] at h
  | some i => exact ⟨i, rfl, by simpa [hi] using h⟩

theorem elemOf_under {t e : TypeId} (h : elemOf? P t = some e) : P.underlying t = some (.slice e) := by
  unfold elemOf? at h
  split at h
  · rename_i d hd; cases h; exact hd
  · cases h

theorem sl_eq {v : Value} {K : Sl → Prop} (h : sl v K) : ∃ s : Sl, v = .slice s.a s.n s.c ∧ K s := by
  cases v <;> first | exact h.elim | skip
  rename_i a n c
  exact ⟨⟨a, n, c⟩, rfl, h⟩

theorem xop_ok (hC : OkTab P C) (hr : ∀ x v, ev x = some v → ρ x = v) (hc : ∀ v, ρ (.const v) = v) (hB : B ≤ w.heap.size) {o : Oper}
    (hk : xop P C o.op ev (absW B w) K) : Goes P B w K ((execOp ρ o).run P w) := by
  cases hop : o.op with
  | alloc t =>
    rw [hop] at hk
    simp only [xop] at hk
    split at hk
    · rename_i z hz
      obtain ⟨i, hi, hz'⟩ := zeroOf_info hz
      have hrun : (execOp ρ o).run P w = .ok (.value (.pointer (some ⟨w.heap.size, 0, none⟩))) { w with heap := w.heap.push (.cells z.cells t) } := by
        simp [execOp, hop, Instr.alloc, zeroValue, typeInfo, hi, hz', newVar, newRow]
      rw [hrun]
      exact ⟨below_push hB _, by rw [push_absW hB]; exact hk⟩
    · exact hk.elim
  | box t x =>
    rw [hop] at hk
    simp only [xop] at hk
    split at hk
    · rename_i v hv
      have hrun : (execOp ρ o).run P w = .ok (.value (.pointer (some ⟨w.heap.size, 0, none⟩))) { w with heap := w.heap.push (.cells v.cells t) } := by
        simp [execOp, hop, Instr.box, hr x v hv, newVar, newRow]
      rw [hrun]
      exact ⟨below_push hB _, by rw [push_absW hB]; exact hk⟩
    · exact hk.elim
  | buildSlice t len parts =>
    rw [hop] at hk
    simp only [xop] at hk
    split at hk
    case h_2 => exact hk.elim
    rename_i e ps he hps
    split at hk
    case h_2 => exact hk.elim
    rename_i z hz
    split at hk
    case h_2 => exact hk.elim
    rename_i cs hb hf
    simp only [Bool.and_eq_true] at hb
    obtain ⟨i, hi, hz'⟩ := zeroOf_info hz
    have hu := elemOf_under he
    have hle : len * P.cellsOf e ≤ 16777216 := Nat.le_of_ble_eq_true hb.1.1
    have hzs : z.cells.toList.length = P.cellsOf e := Nat.eq_of_beq_eq_true hb.1.2
    have h1 : 1 ≤ P.cellsOf e := Nat.le_of_ble_eq_true hb.2
    have hzs' : z.cells.size = P.cellsOf e := by simpa using hzs
    have hpa : (parts.map fun (i, x) => (i, ρ x)).toList = ps := by
      have := xevp_ok hr _ _ hps
      simpa using this
    have hzr := madeCells_zrow z.cells (by omega) len
    rw [hzs'] at hzr
    have hfill := fill_ok (fun i => some (i * P.cellsOf e, P.cellsOf e)) ps (madeCells z.cells (len * P.cellsOf e)) cs (by rw [hzr]; exact hf)
    have hrun : (execOp ρ o).run P w = .ok (.value (.slice (some ⟨w.heap.size, 0, none⟩) len len)) { w with heap := w.heap.push (.cells cs.toArray e) } := by
      have hn : ¬ (16777216 < len * P.cellsOf e) := by omega
      by_cases h0 : len * P.cellsOf e = 0
      · have hm : (madeCells z.cells (len * P.cellsOf e)) = #[] := by rw [h0]; simp [madeCells, Array.range_zero']
        rw [hm] at hfill
        have hl0 : len = 0 := by
          rcases Nat.mul_eq_zero.1 h0 with h | h <;> omega
        simp only [execOp, hop, Sem.run_bind, Instr.buildSlice, run_underlying' hu, Result.andThen_ok, run_sizeOf hi, Sem.run_ite]
        rw [if_neg hn]
        simp only [h0, if_true, Sem.run_pure, Result.andThen_ok, hpa]
        simp [Array.range_zero', hfill, newRow]
      · simp only [execOp, hop, Sem.run_bind, Instr.buildSlice, run_underlying' hu, Result.andThen_ok, run_sizeOf hi, Sem.run_ite]
        rw [if_neg hn]
        have hzv : (zeroValue e).run P w = .ok z w := by simp [zeroValue, typeInfo, hi, hz']
        simp only [h0, if_false, hzv, Sem.run_pure, Result.andThen_ok, hpa]
        unfold madeCells at hfill
        simp [hfill, newRow]
    rw [hrun]
    exact ⟨below_push hB _, by rw [push_absW hB]; exact hk⟩
  | store t a x =>
    rw [hop] at hk
    simp only [xop] at hk
    split at hk
    case h_2 => exact hk.elim
    rename_i ad v ha hv
    split at hk
    case h_2 => exact hk.elim
    rename_i hb
    simp only [Bool.and_eq_true] at hb
    have hn : v.cells.toList.length = P.cellsOf t := Nat.eq_of_beq_eq_true hb.1
    have hn' : v.cells.size = P.cellsOf t := by simpa using hn
    obtain ⟨i, hi⟩ := cells_pos hb.2
    obtain ⟨w', hst, hbel, hK⟩ := stores_ok P ad v.cells.toList 0 w _ hk
    have hrun : (execOp ρ o).run P w = .ok .skip w' := by
      simp [execOp, hop, Instr.storeAt, Instr.sureAddr, hr a _ ha, hr x _ hv, storeVar, run_sizeOf hi, hn', hst]
    rw [hrun]
    exact ⟨hbel, hK⟩
  | makeSlice t n c =>
    rw [hop] at hk
    simp only [xop] at hk
    split at hk
    case h_2 => exact hk.elim
    rename_i e k n' k' c' he hn hcc
    split at hk
    case h_2 => exact hk.elim
    rename_i z hz hby
    split at hk
    case h_2 => exact hk.elim
    rename_i hb
    simp only [Bool.and_eq_true] at hb
    obtain ⟨i, hi, hz'⟩ := zeroOf_info hz
    have hu := elemOf_under he
    obtain ⟨g0, g1, g2, hK⟩ := hk
    have hbytes : i.bytes = P.bytesOf e := by simp [Program.bytesOf, hi]
    have hsize : i.size = P.cellsOf e := by simp [Program.cellsOf, hi]
    have hb1 : 1 ≤ P.bytesOf e := Nat.le_of_ble_eq_true hby
    have hzs : z.cells.toList.length = P.cellsOf e := Nat.eq_of_beq_eq_true hb.1
    have hzs' : z.cells.size = P.cellsOf e := by simpa using hzs
    have h1 : 1 ≤ P.cellsOf e := Nat.le_of_ble_eq_true hb.2
    have hcl : c' ≤ 281474976710656 := by
      have h1 : (1 : Int) * c' ≤ (P.bytesOf e : Int) * c' := Int.mul_le_mul_of_nonneg_right (by omega) (by omega)
      omega
    have hrm := run_make (P := P) w t e i z hu hi hz' k k' n' c' g0 g1 (by rw [hbytes]; omega) (by omega)
    have hrun : (execOp ρ o).run P w = .ok (.value (.slice (some ⟨w.heap.size, 0, none⟩) n'.toNat c'.toNat)) { w with heap := w.heap.push (.cells (madeCells z.cells (c'.toNat * i.size)) e) } := by
      simp only [execOp, hop, hr n _ hn, hr c _ hcc, Sem.run_bind, hrm, Result.andThen_ok, Sem.run_pure]
      rfl
    rw [hrun]
    refine ⟨below_push hB _, ?_⟩
    rw [push_absW hB, hsize, ← hzs', madeCells_zrow z.cells (by omega)]
    exact hK
  | call c =>
    rw [hop] at hk
    simp only [xop] at hk
    split at hk
    · rename_i f hcal
      split at hk
      case h_2 => exact hk.elim
      rename_i v vs hf hvs
      have hargs : c.args.map ρ = vs.toArray := xevs_arr hr _ _ hvs
      unfold cv at hk
      split at hk
      · rename_i g fi cap
        split at hk
        case h_2 => exact hk.elim
        rename_i hgy
        obtain ⟨ct, hmem, hk'⟩ := cls_mem C g _ _ _ hk
        have he : (fi.toList ++ vs ++ cap.toList).toArray = fi ++ vs.toArray ++ cap := by apply Array.ext'; simp
        rcases (hC g ct hmem).1 with ⟨hok, hcb⟩ | ⟨rfl, _⟩ | ⟨_, hX⟩
        rotate_left
        · rw [Nat.beq_refl] at hgy; cases hgy
        · obtain ⟨u, w', hrn, hbel, hKv⟩ := hX B w _ K hB hk'
          rw [he] at hrn
          have hrun : (execOp ρ o).run P w = .ok (.value u) w' := by
            rw [Array.append_assoc] at hrn
            simp [execOp, hop, resolve, hcal, hargs, hr f _ hf, Deferred.ofValue, invoke, hrn]
          rw [hrun]
          exact ⟨hbel, hKv⟩
        have hrun : (execOp ρ o).run P w = .ok (.enter g (fi ++ vs.toArray ++ cap)) w := by
          simp [execOp, hop, resolve, hcal, hargs, hr f _ hf, Deferred.ofValue, invoke, run_callFunc hcb]
        rw [hrun]
        have := hok B w _ K hB hk'
        refine ⟨Bel.refl B w, ?_⟩
        rw [he] at this
        exact this
      · rename_i l fi cap
        split at hk
        case h_2 => exact hk.elim
        rename_i hfi
        obtain ⟨ct, hmem, hk'⟩ := cls_mem C ykey _ _ _ hk
        rcases (hC ykey ct hmem).1 with ⟨_, hcb⟩ | ⟨_, Y, rfl, hY⟩ | ⟨hy, _⟩
        rotate_left
        rotate_left
        · rw [Nat.beq_refl] at hy; cases hy
        · exact (not_callable_ykey hcb).elim
        obtain ⟨fn, tmps, assign, body, hy, hround⟩ := hY B w l vs _ hB hk'
        have hfi' : fi = #[] := by apply Array.ext'; simpa using hfi
        subst hfi'
        have hrun : (execOp ρ o).run P w = .ok (.round l fn tmps assign body) w := by
          simp [execOp, hop, resolve, hcal, hargs, hr f _ hf, Deferred.ofValue, invoke, hy]
        rw [hrun]
        exact ⟨Bel.refl B w, hround.mono fun e w'' ⟨b, he, hb, hK⟩ => ⟨_, he, hb, hK⟩⟩
      · exact hk.elim
    · rename_i hcal
      split at hk
      case h_2 => exact hk.elim
      rename_i s x t u hvs hty
      split at hk
      case h_2 => exact hk.elim
      rename_i e he htu
      have := Nat.eq_of_beq_eq_true htu
      subst this
      split at hk
      case h_2 => exact hk.elim
      rename_i z hz
      split at hk
      case h_2 => exact hk.elim
      rename_i hb
      simp only [Bool.and_eq_true] at hb
      obtain ⟨i, hi, hz'⟩ := zeroOf_info hz
      have hu := elemOf_under he
      obtain ⟨s', hs', hk⟩ := sl_eq hk
      obtain ⟨x', hx', hk⟩ := sl_eq hk
      rw [hs', hx'] at hvs
      have hargs : c.args.map ρ = #[.slice s'.a s'.n s'.c, .slice x'.a x'.n x'.c] := xevs_arr hr _ _ hvs
      have hat : c.argTypes = #[t, t] := by apply Array.ext'; simpa using hty
      obtain ⟨r, w', hrun, hbel, hK⟩ := app_ok (P := P) (ty := o.type) hB hu hi hz' (Nat.eq_of_beq_eq_true hb.1.1) (Nat.le_of_ble_eq_true hb.1.2) hk
      have hrun' : (execOp ρ o).run P w = .ok (.value (.slice r.a r.n r.c)) w' := by
        simp [execOp, hop, resolve, hcal, hargs, invoke, builtin, hat, hrun]
      rw [hrun']
      exact ⟨hbel, hK⟩
    · rename_i hcal
      split at hk
      case h_2 => exact hk.elim
      rename_i d s t u hvs hty
      split at hk
      case h_2 => exact hk.elim
      rename_i e he htu
      have := Nat.eq_of_beq_eq_true htu
      subst this
      split at hk
      case h_2 => exact hk.elim
      rename_i hb
      simp only [Bool.and_eq_true] at hb
      obtain ⟨i, hi⟩ := Option.isSome_iff_exists.1 hb.2
      have hu := elemOf_under he
      obtain ⟨d', hd', hk⟩ := sl_eq hk
      obtain ⟨s', hs', hk⟩ := sl_eq hk
      rw [hd', hs'] at hvs
      have hargs : c.args.map ρ = #[.slice d'.a d'.n d'.c, .slice s'.a s'.n s'.c] := xevs_arr hr _ _ hvs
      have hat : c.argTypes[0]? = some t := by rw [← Array.getElem?_toList, hty]; rfl
      obtain ⟨n, w', hrun, hbel, hK⟩ := cpy_ok (P := P) (ty := o.type) hu hi (Nat.le_of_ble_eq_true hb.1) hat hk
      have hrun' : (execOp ρ o).run P w = .ok (.value (.int .i64 n)) w' := by
        simp [execOp, hop, resolve, hcal, hargs, invoke, builtin, hrun]
      rw [hrun']
      exact ⟨hbel, hK⟩
    · rename_i hcal
      split at hk
      case h_2 => exact hk.elim
      rename_i s t _ hvs hty
      split at hk
      case h_2 => exact hk.elim
      rename_i e he
      split at hk
      case h_2 => exact hk.elim
      rename_i z hz
      split at hk
      case h_2 => exact hk.elim
      rename_i hb
      simp only [Bool.and_eq_true] at hb
      obtain ⟨i, hi, hz'⟩ := zeroOf_info hz
      have hu := elemOf_under he
      obtain ⟨s', hs', hk⟩ := sl_eq hk
      rw [hs'] at hvs
      have hargs : c.args.map ρ = #[.slice s'.a s'.n s'.c] := xevs_arr hr _ _ hvs
      have hat : c.argTypes[0]? = some t := by rw [← Array.getElem?_toList, hty]; rfl
      obtain ⟨w', hrun, hbel, hK⟩ := clr_ok (P := P) (ty := o.type) hu hi hz' (Nat.eq_of_beq_eq_true hb.1.1) (Nat.le_of_ble_eq_true hb.1.2) (fun v hv => List.all_eq_true.1 hb.2 v hv) hat hk
      have hrun' : (execOp ρ o).run P w = .ok (.value (.tuple #[])) w' := by
        simp [execOp, hop, resolve, hcal, hargs, invoke, builtin, hrun]
      rw [hrun']
      exact ⟨hbel, hK⟩
    · refine goes_val hr hc ?_
      rw [hop]; exact hk
  | _ =>
    rw [hop] at hk
    refine goes_val hr hc ?_
    rw [hop]; exact hk

end

/-- math/bits.Add64, which the model itself answers. -/
theorem add64_okx {P : Program} {f : FuncId} {fn : Func} (hf : P.funcs[f]? = some fn) (hname : (fn.name == "runtime.NumGoroutine") = false) (hb : fn.body.isNone = true) (hn : Extern.findNext fn = none) (he : Extern.find fn = some add64Entry) {c : CT}
    (hc : ∀ vs h K, c vs h K → ∃ x y z, vs = [.int .u64 x, .int .u64 y, .int .u64 z] ∧ add64 x y z h fun a b h => K (.tuple #[.int .u64 a, .int .u64 b]) h)
    (hc' : ∀ x y z h K, (add64 x y z h fun a b h => K (.tuple #[.int .u64 a, .int .u64 b]) h) → c [.int .u64 x, .int .u64 y, .int .u64 z] h K) : OkX P f c ∧ MonoC c := by
  refine ⟨fun B w vs K hB hk => ?_, fun vs h K K' hK hk => ?_⟩
  · obtain ⟨x, y, z, rfl, h1, h2, h3, h4, hK⟩ := hc vs _ K hk
    refine ⟨_, w, ?_, Bel.refl B w, hK⟩
    rw [run_callFunc_extern hf hname hb hn he]
    show Result.andThen ((add64Entry #[.int .u64 x, .int .u64 y, .int .u64 z]).run P w) _ = _
    rw [run_add64 x y z h1 h2 h3 h4]
    rfl
  · obtain ⟨x, y, z, rfl, h1, h2, h3, h4, hk⟩ := hc vs h K hk
    exact hc' x y z h K' ⟨h1, h2, h3, h4, hK _ _ hk⟩

end Go.Hx
