/- The conditions on operations that only read are sound for the model's run: arithmetic, comparisons. No condition. -/
import Derived.Test.YthohhnnjpaepnaaHxSoundB
import Derived.Laws.StructEq
import Derived.Laws.Cover3
import Derived.Laws.Pointers
namespace Go.Hx
set_option linter.unusedSimpArgs false
set_option linter.unusedVariables false
open Go.RowKit

theorem run_eqGuard_plain {P : Program} {w : World} (op : BinOp) (t : TypeId) (xo yo : Operand) (x y : Value) (hx : ∀ cs, x ≠ .agg cs) (hn : x ≠ .nilIface) :
    (eqGuard op t xo yo x y).run P w = .ok () w := by
  unfold eqGuard
  cases op <;> simp <;> (cases x <;> first | rfl | (exact absurd rfl (hx _)) | exact absurd rfl hn)

theorem run_equal_bool2 {P : Program} (w : World) (t : TypeId) (a b : Bool) (h : P.underlying t = some .bool) : (Op.equal t (.bool a) (.bool b)).run P w = .ok (a == b) w := run_equalIn_bool w 9999 t a b h

theorem run_equal_ptr {P : Program} (w : World) (t e : TypeId) (p : Option Addr) (h : P.underlying t = some (.pointer e)) : (Op.equal t (.pointer p) (.pointer none)).run P w = .ok p.isNone w := by
  have hp : P.pointee t = e := by simp [Program.pointee, h]
  exact run_equalIn_pointer_nil w 9999 t p (by rw [hp]; exact h)

theorem run_equal_slice {P : Program} (w : World) (t e : TypeId) (a : Option Addr) (n c : Nat) (h : P.underlying t = some (.slice e)) : (Op.equal t (.slice a n c) (.slice none 0 0)).run P w = .ok a.isNone w :=
  run_equal_slice_nil w t e a n c h

theorem run_equal_func {P : Program} (w : World) {t : TypeId} {ps rs : Array TypeId} {va : Bool} {fn : Fn} {fi cap : Array Value} (h : P.underlying t = some (.func ps rs va)) : (Op.equal t (.func fn fi cap) .nilFunc).run P w = .ok false w := by
  unfold Op.equal
  show (Op.equalIn (9999 + 1) t _ _).run P w = _
  unfold Op.equalIn
  simp [run_underlying h]

theorem xbin_ok {P : Program} {t : TypeId} {op : BinOp} {x y : Value} {K : Value → Prop} (hk : xbin P t op x y K) :
    ∃ v, K v ∧ (∀ cs, x ≠ .agg cs) ∧ x ≠ .nilIface ∧ ∀ w, (binOp op t x y).run P w = .ok v w := by
  unfold xbin at hk
  split at hk
  · rename_i k a j b
    refine ⟨_, hk.2, by simp, by simp, fun w => ?_⟩
    have h0 : ¬ b < 0 := by omega
    simp [binOp, Op.shift, h0]
  · rename_i k a j b
    refine ⟨_, hk.2, by simp, by simp, fun w => ?_⟩
    have h0 : ¬ b < 0 := by omega
    simp [binOp, Op.shift, h0]
  · rename_i k a j b hs1 hs2
    cases hkj : ieq k j with
    | false => rw [hkj] at hk; exact hk.elim
    | true =>
      rw [hkj] at hk
      have := ieq_eq hkj; subst this
      simp only [cnd'] at hk
      cases op with
      | shl => exact hk.elim
      | shr => exact hk.elim
      | andNot => exact hk.elim
      | quo => exact ⟨_, hk.2, by simp, by simp, fun w => by simp [binOp, Op.intDiv, hk.1]⟩
      | rem => exact ⟨_, hk.2, by simp, by simp, fun w => by simp [binOp, Op.intDiv, hk.1]⟩
      | add => exact ⟨_, hk, by simp, by simp, fun w => by simp [binOp, Op.intArith]⟩
      | sub => exact ⟨_, hk, by simp, by simp, fun w => by simp [binOp, Op.intArith]⟩
      | mul => exact ⟨_, hk, by simp, by simp, fun w => by simp [binOp, Op.intArith]⟩
      | and => exact ⟨_, hk, by simp, by simp, fun w => by simp [binOp, Op.intBits]⟩
      | or => exact ⟨_, hk, by simp, by simp, fun w => by simp [binOp, Op.intBits]⟩
      | xor => exact ⟨_, hk, by simp, by simp, fun w => by simp [binOp, Op.intBits]⟩
      | eql => exact ⟨_, hk, by simp, by simp, fun w => by simp [binOp, Op.intCmp]⟩
      | neq => exact ⟨_, hk, by simp, by simp, fun w => by simp [binOp, Op.intCmp]⟩
      | lss => exact ⟨_, hk, by simp, by simp, fun w => by simp [binOp, Op.intCmp]⟩
      | leq => exact ⟨_, hk, by simp, by simp, fun w => by simp [binOp, Op.intCmp]⟩
      | gtr => exact ⟨_, hk, by simp, by simp, fun w => by simp [binOp, Op.intCmp]⟩
      | geq => exact ⟨_, hk, by simp, by simp, fun w => by simp [binOp, Op.intCmp]⟩
  · rename_i a b
    split at hk
    · rename_i hu; exact ⟨_, hk, by simp, by simp, fun w => by simp [binOp, run_equal_bool2 w t a b hu]⟩
    · exact hk.elim
  · rename_i a b
    split at hk
    · rename_i hu; exact ⟨_, hk, by simp, by simp, fun w => by simp [binOp, run_equal_bool2 w t a b hu]⟩
    · exact hk.elim
  · rename_i p
    split at hk
    · rename_i e hu; exact ⟨_, hk, by simp, by simp, fun w => by simp [binOp, run_equal_ptr w t e p hu]⟩
    · exact hk.elim
  · rename_i p
    split at hk
    · rename_i e hu; exact ⟨_, hk, by simp, by simp, fun w => by simp [binOp, run_equal_ptr w t e p hu]⟩
    · exact hk.elim
  · rename_i a n c
    split at hk
    · rename_i e hu; exact ⟨_, hk, by simp, by simp, fun w => by simp [binOp, run_equal_slice w t e a n c hu]⟩
    · exact hk.elim
  · rename_i a n c
    split at hk
    · rename_i e hu; exact ⟨_, hk, by simp, by simp, fun w => by simp [binOp, run_equal_slice w t e a n c hu]⟩
    · exact hk.elim
  · split at hk
    · rename_i hu; exact ⟨_, hk, by simp, by simp, fun w => by simp [binOp, run_equal_func w hu]⟩
    · exact hk.elim
  · split at hk
    · rename_i hu; exact ⟨_, hk, by simp, by simp, fun w => by simp [binOp, run_equal_func w hu]⟩
    · exact hk.elim
  · exact hk.elim

/-! ### Equality of structs and arrays of plain cells -/

theorem run_underlying' {P : Program} {t : TypeId} {d : TypeDesc} (h : P.underlying t = some d) (w : World) : (underlying t).run P w = .ok d w := by
  simp [underlying, h]

theorem veq_ok {P : Program} {t : TypeId} {x y : Value} {r : Bool} (h : veq P t x y = some r) (d : Nat) (w : World) :
    (Op.equalIn (d + 1) t x y).run P w = .ok r w := by
  unfold veq at h
  split at h
  · rename_i a b hu; cases h; exact run_equalIn_bool w d t a b hu
  · rename_i j a k b hu
    cases hjk : ieq j k with
    | false => simp [hjk] at h
    | true =>
      have := ieq_eq hjk; subst this
      simp only [hjk] at h
      cases h
      exact run_equalIn_int w d t j _ a b hu
  · cases h

theorem run_part {P : Program} {t : TypeId} {cs : Array Value} {o : Nat} {x : Value} {r : Bool} {y : Value} (h : veq P t x y = some r) (hx : cs.toList[o]? = some x) (w : World) :
    (part t cs o).run P w = .ok x w := by
  have hd : ∃ d, P.underlying t = some d ∧ isAg P t = false := by
    unfold veq at h
    split at h
    · rename_i hu; exact ⟨_, hu, by simp [isAg, hu]⟩
    · rename_i hu; exact ⟨_, hu, by simp [isAg, hu]⟩
    · cases h
  obtain ⟨d, hd, ha⟩ := hd
  have hx' : cs[o]? = some x := by simpa using hx
  simp [part, run_isAgg hd, ha, hx']

theorem run_part' {P : Program} {t : TypeId} {cs : Array Value} {o : Nat} {x : Value} {r : Bool} {y : Value} (h : veq P t y x = some r) (hx : cs.toList[o]? = some x) (w : World) :
    (part t cs o).run P w = .ok x w := by
  have hd : ∃ d, P.underlying t = some d ∧ isAg P t = false := by
    unfold veq at h
    split at h
    · rename_i hu; exact ⟨_, hu, by simp [isAg, hu]⟩
    · rename_i hu; exact ⟨_, hu, by simp [isAg, hu]⟩
    · cases h
  obtain ⟨d, hd, ha⟩ := hd
  have hx' : cs[o]? = some x := by simpa using hx
  simp [part, run_isAgg hd, ha, hx']

theorem veqs_cons {P : Program} {xs ys : List Value} {t : TypeId} {r : List TypeId} {o : Nat} {b : Bool} (h : veqs P xs ys (t :: r) o = some b) :
    ∃ x y a c, xs[o]? = some x ∧ ys[o]? = some y ∧ veq P t x y = some a ∧ veqs P xs ys r (o + 1) = some c ∧ b = (a && c) := by
  cases r with
  | nil =>
    simp only [veqs] at h
    split at h
    · rename_i x y hx hy; exact ⟨x, y, b, true, hx, hy, h, rfl, by simp⟩
    · cases h
  | cons u r =>
    simp only [veqs] at h
    split at h
    · rename_i x y hx hy
      split at h
      · rename_i a c ha hc; cases h; exact ⟨x, y, a, c, hx, hy, ha, hc, rfl⟩
      · cases h
    · cases h

theorem eqFields_ok {P : Program} (d : Nat) (xs ys : Array Value) : ∀ (fs : List Field) (o : Nat) (b : Bool) (w : World), inRow fs o = true →
    (∀ f ∈ fs, f.name ≠ "_") → veqs P xs.toList ys.toList (fs.map (·.type)) o = some b → (Op.eqFields (d + 1) xs ys fs).run P w = .ok b w
  | [], o, b, w, _, _, h => by simp [veqs] at h; subst h; simp [Op.eqFields]
  | f :: fs, o, b, w, hr, hn, h => by
    simp only [inRow, Bool.and_eq_true] at hr
    have ho : f.offset = o := Nat.eq_of_beq_eq_true hr.1
    simp only [List.map_cons] at h
    obtain ⟨x, y, a, c, hx, hy, ha, hc, rfl⟩ := veqs_cons h
    have hname : f.name ≠ "_" := hn f (by simp)
    have ih := eqFields_ok d xs ys fs (o + 1) c w hr.2 (fun g hg => hn g (by simp [hg])) hc
    simp only [Op.eqFields, if_pos hname, Sem.run_bind, ho, run_part ha hx, run_part' ha hy, Result.andThen_ok, veq_ok ha]
    cases a
    · simp
    · simp [ih]

def eqElems (d : Nat) (e : TypeId) (xs ys : Array Value) (n : Nat) : List Nat → Sem Bool
  | [] => pure true
  | i :: r => do
    let a ← part e xs (i * n)
    let b ← part e ys (i * n)
    let c ← Op.equalIn d e a b
    if (!c) = true then pure false else eqElems d e xs ys n r

theorem run_equalIn_array {P : Program} (d : Nat) (t e : TypeId) (len : Nat) (xs ys : Array Value) (w : World) (ht : P.underlying t = some (.array len e)) {i : TypeInfo} (hi : P.info? e = some i) :
    (Op.equalIn (d + 1) t (.agg xs) (.agg ys)).run P w = (eqElems d e xs ys (P.cellsOf e) (List.range' 0 len)).run P w := by
  simp only [Op.equalIn, Sem.run_bind, run_underlying' ht, Result.andThen_ok, run_sizeOf hi]
  rw [Std.Legacy.Range.forIn_eq_forIn_range']
  simp only [Std.Legacy.Range.size]
  have hl : (len - 0 + 1 - 1) / 1 = len := by simp
  rw [hl]
  generalize List.range' 0 len 1 = l
  induction l generalizing w with
  | nil => simp [eqElems]
  | cons j l ih =>
    simp only [List.forIn_cons, eqElems, Sem.run_bind]
    generalize (part e xs (j * P.cellsOf e)).run P w = r1
    cases r1 with
    | ok a w1 =>
      simp only [Result.andThen_ok]
      generalize (part e ys (j * P.cellsOf e)).run P w1 = r2
      cases r2 with
      | ok b w2 =>
        simp only [Result.andThen_ok]
        generalize (Op.equalIn d e a b).run P w2 = r3
        cases r3 with
        | ok r w3 =>
          cases r
          · simp
          · simp only [Result.andThen_ok, Bool.not_true, Bool.false_eq_true, if_false, Sem.run_pure]
            exact ih w3
        | halt x w3 => simp [Result.andThen]
      | halt x w2 => simp [Result.andThen]
    | halt x w1 => simp [Result.andThen]

theorem eqElems_ok {P : Program} (d : Nat) (e : TypeId) (xs ys : Array Value) : ∀ (n o : Nat) (b : Bool) (w : World),
    veqs P xs.toList ys.toList (List.replicate n e) o = some b → (eqElems (d + 1) e xs ys 1 (List.range' o n)).run P w = .ok b w
  | 0, o, b, w, h => by simp [veqs] at h; subst h; simp [eqElems]
  | n + 1, o, b, w, h => by
    rw [List.replicate_succ] at h
    obtain ⟨x, y, a, c, hx, hy, ha, hc, rfl⟩ := veqs_cons h
    have ih := eqElems_ok d e xs ys n (o + 1) c w hc
    simp only [List.range'_succ, eqElems, Sem.run_bind, Nat.mul_one, run_part ha hx, run_part' ha hy, Result.andThen_ok, veq_ok ha]
    cases a
    · simp
    · simp [ih]

theorem xeqs_ok {P : Program} {t : TypeId} {xs ys : Array Value} {r : Bool} (hp : plainAgg P t = true) (h : xeqs P t xs.toList ys.toList = some r) (w : World) :
    (Op.equalIn 10000 t (.agg xs) (.agg ys)).run P w = .ok r w := by
  unfold xeqs at h
  unfold plainAgg at hp
  split at h
  · rename_i fs hu
    simp only [hu, Bool.and_eq_true, Bool.not_eq_true', List.all_eq_true] at hp
    have hf : P.fieldsOf t = fs := by simp [Program.fieldsOf, hu]
    rw [run_equalIn_struct w 9999 t xs ys (by rw [hf]; exact hu) hp.1, hf]
    cases hr : inRow fs.toList 0 with
    | false => simp [hr] at h
    | true =>
      simp only [hr] at h
      refine eqFields_ok 9998 xs ys fs.toList 0 r w hr (fun f hf' => ?_) h
      have := (hp.2 f hf').1
      simpa using this
  · rename_i n e hu
    simp only [hu] at hp
    have h1 : P.cellsOf e = 1 ∧ ∃ i, P.info? e = some i := by
      split at hp
      · rename_i he; exact ⟨Nat.eq_of_beq_eq_true hp, underlying_info he⟩
      · rename_i he; exact ⟨Nat.eq_of_beq_eq_true hp, underlying_info he⟩
      · cases hp
    obtain ⟨h1, i, hi⟩ := h1
    rw [run_equalIn_array 9999 t e n xs ys w hu hi, h1]
    exact eqElems_ok 9998 e xs ys n 0 r w h
  · cases h

end Go.Hx
