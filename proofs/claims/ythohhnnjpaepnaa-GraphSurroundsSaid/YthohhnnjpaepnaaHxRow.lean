/- How a law's arguments, read as data, stand in the abstract heap. No condition. -/
import Derived.Test.YthohhnnjpaepnaaHxLib
import Derived.OpenShut
import Derived.ProofKit
import Derived.SizedLaws
namespace Go.Hx
set_option linter.unusedSimpArgs false
set_option linter.unusedVariables false
open Go.ChangeShapes Go.WideShapes Go.ChangeAt Go.RowKit

def flat1 (P : Program) (t : TypeId) : Option LK := match P.underlying t with
  | some .bool => some .bool
  | some (.int k) => some (.int k)
  | _ => none

/-- The cells of a type made of one row of bools and integers. -/
def flat (P : Program) (t : TypeId) : Option (List LK) := match P.underlying t with
  | some .bool => some [.bool]
  | some (.int k) => some [.int k]
  | some (.array n e) => match flat1 P e with
    | some l => if P.cellsOf e = 1 then some (List.replicate n l) else none
    | none => none
  | some (.struct fs) => if inRow fs.toList 0 = true ∧ fs.toList.all (fun f => P.cellsOf f.type == 1) = true then fs.toList.mapM fun f => flat1 P f.type else none
  | _ => none

def okCell : LK → Value → Prop
  | .bool, v => ∃ b, v = .bool b
  | .int k, v => ∃ n, v = .int k n ∧ (Lit.int k n).wf = true
  | _, _ => False

section
variable {H : Type} {enc : TypeId × Value → H} {P : Program} {w : World} {base : Nat} {spare : Nat → Bool} {held : Bool} {fuel : Nat} {t : TypeId} {cs : List Value} {x : DataW H × List MemPlace}

theorem trod_flat1 {l : LK} (hf : flat1 P t = some l) (h : DataW.trod enc P w base spare held fuel t cs = some x) : ∃ v, cs = [v] ∧ okCell l v := by
  unfold flat1 at hf
  cases fuel with
  | zero => simp [DataW.trod] at h
  | succ m =>
    unfold DataW.trod at h
    split at hf
    · rename_i ht
      cases hf
      rw [ht] at h
      split at h <;> simp_all [okCell]
    · rename_i k ht
      cases hf
      rw [ht] at h
      split at h <;> simp_all [okCell]
    · cases hf

theorem inRow_get : ∀ (fs : List Field) (o : Nat), inRow fs o = true → ∀ i f, fs[i]? = some f → f.offset = o + i
  | [], _, _, i, f, h => by simp at h
  | g :: r, o, hr, i, f, h => by
    simp only [inRow, Bool.and_eq_true] at hr
    cases i with
    | zero => simp at h; subst h; have := Nat.eq_of_beq_eq_true hr.1; omega
    | succ i => simp at h; have := inRow_get r (o + 1) hr.2 i f h; omega

theorem trod_flat {ls : List LK} (hf : flat P t = some ls) (hl : P.cellsOf t = ls.length) (h : DataW.trod enc P w base spare held fuel t cs = some x) :
    cs.length = ls.length ∧ ∀ (i : Nat) (l : LK), ls[i]? = some l → ∃ v, cs[i]? = some v ∧ okCell l v := by
  unfold flat at hf
  split at hf
  · rename_i ht
    cases hf
    obtain ⟨v, rfl, hv⟩ := trod_flat1 (l := .bool) (by simp [flat1, ht]) h
    refine ⟨rfl, fun i l hi => ?_⟩
    cases i with
    | zero => simp at hi; subst hi; exact ⟨v, rfl, hv⟩
    | succ i => simp at hi
  · rename_i k ht
    cases hf
    obtain ⟨v, rfl, hv⟩ := trod_flat1 (l := .int k) (by simp [flat1, ht]) h
    refine ⟨rfl, fun i l hi => ?_⟩
    cases i with
    | zero => simp at hi; subst hi; exact ⟨v, rfl, hv⟩
    | succ i => simp at hi
  · rename_i n e ht
    split at hf
    · rename_i l0 h1
      split at hf
      · rename_i hc
        cases hf
        obtain ⟨xs, m, -, -, hcl, hxl, hx⟩ := DataW.trod_array ht h
        refine ⟨hcl.trans hl, fun i l hi => ?_⟩
        rw [List.getElem?_replicate] at hi
        split at hi
        · rename_i hin
          cases hi
          have := hx i hin
          rw [List.getElem?_eq_getElem (by omega)] at this
          obtain ⟨v, hv, hk⟩ := trod_flat1 h1 this
          rw [hc, Nat.mul_one] at hv
          refine ⟨v, ?_, hk⟩
          have := congrArg (·[0]?) hv
          simpa [List.getElem?_take, List.getElem?_drop] using this
        · cases hi
      · cases hf
    · cases hf
  · rename_i fs ht
    split at hf
    · rename_i hc
      obtain ⟨xs, m, -, -, hcl, hxl, hx⟩ := DataW.trod_struct ht h
      refine ⟨hcl.trans hl, fun i l hi => ?_⟩
      have hlen := mapM_some_length hf
      have hi' : i < ls.length := by
        rcases Nat.lt_or_ge i ls.length with h | h
        · exact h
        · simp [List.getElem?_eq_none h] at hi
      obtain ⟨f, hfi⟩ : ∃ f, fs.toList[i]? = some f := ⟨_, List.getElem?_eq_getElem (by omega)⟩
      have hfl := mapM_some_get hf i f hfi
      have hoff := inRow_get _ _ hc.1 i f hfi
      have hcf : P.cellsOf f.type = 1 := by
        have := List.all_eq_true.1 hc.2 f (List.mem_of_getElem? hfi)
        simpa using this
      have := hx i f (by rw [← Array.getElem?_toList]; exact hfi)
      rw [List.getElem?_eq_getElem (by rw [hxl, ← Array.length_toList]; omega)] at this
      obtain ⟨v, hv, hk⟩ := trod_flat1 (hfl.trans hi) this
      rw [hcf, hoff] at hv
      refine ⟨v, ?_, hk⟩
      have := congrArg (·[0]?) hv
      simpa [List.getElem?_take, List.getElem?_drop] using this
    · cases hf
  · cases hf

end

section
variable {H : Type} {enc : TypeId × Value → H} {P : Program} {W : World} {t : TypeId}

theorem seg_absW {a : Addr} {m : Nat} {cs : List Value} (hl : cs.length = m) (h : ∀ j, j < m → W.cell? (a.add j) = cs[j]?) : (absW W.heap.size W).seg (some a) m = some cs := by
  by_cases hm : m = 0
  · subst hm
    rw [seg_zero, List.eq_nil_of_length_eq_zero hl]
  · have h0 := h 0 (by omega)
    have hget : ∀ j, j < m → ∃ v, cs[j]? = some v := fun j hj => ⟨_, List.getElem?_eq_getElem (by omega)⟩
    obtain ⟨v0, e0⟩ := hget 0 (by omega)
    rw [e0] at h0
    have hs := World.cell?_spot h0
    simp [Addr.add] at hs
    obtain ⟨b, o, s⟩ := a
    simp at hs
    subst hs
    simp only [add_mk] at h h0
    unfold World.cell? at h0
    split at h0
    · rename_i c e f hb
      simp only at hb
      have hbl : b < W.heap.size := by
        rcases Nat.lt_or_ge b W.heap.size with h | h
        · exact h
        · simp [Array.getElem?_eq_none h] at hb
      have hr : (absW W.heap.size W).row b = some c.toList := by
        have hbk : (absW W.heap.size W).blk b = some (.old (.cells c e f)) := by simp only [absW, hb, Option.bind_some, absB, hbl, if_true]
        unfold Hp.row
        rw [hbk]
      have hc : ∀ j, j < m → c.toList[o + j]? = cs[j]? := fun j hj => by
        have := h j hj
        simpa [World.cell?, hb] using this
      have hlen : o + m ≤ c.toList.length := by
        obtain ⟨v, hv⟩ := hget (m - 1) (by omega)
        have := hc (m - 1) (by omega)
        rw [hv] at this
        have := (List.getElem?_eq_some_iff.1 this).1
        omega
      rw [seg_row hr hlen]
      congr 1
      apply List.ext_getElem?
      intro i
      by_cases hi : i < m
      · rw [List.getElem?_take_of_lt hi, List.getElem?_drop, hc i hi]
      · rw [List.getElem?_eq_none (by simp; omega), List.getElem?_eq_none (by omega)]
    · cases h0

theorem blk_absW {a : Addr} {m : Nat} {cs : List Value} (h : (absW W.heap.size W).seg (some a) m = some cs) (hm : 0 < m) : a.block < (absW W.heap.size W).size := by
  obtain ⟨b, o, xs, ha, hr, -⟩ := seg_inv h hm
  cases ha
  rcases Nat.lt_or_ge b W.heap.size with h | h
  · exact h
  · exfalso
    have : (absW W.heap.size W).blk b = none := by simp [absW, Array.getElem?_eq_none h]
    unfold Hp.row at hr
    rw [this] at hr
    cases hr

/-- A slice of flat elements, as an argument. -/
theorem open_flat {e : TypeId} {ls : List LK} {a : Option Addr} {len cap : Nat} {d : DataW H} {p : List MemPlace} (ht : P.underlying t = some (.slice e)) (hf : flat P e = some ls) (hl : P.cellsOf e = ls.length)
    (h : DataW.Trod enc P W 0 (fun _ => true) true t (.slice a len cap) d p) :
    ∃ cs, Rd (absW W.heap.size W) ls.length ⟨a, len, cap⟩ cs ∧ len ≤ 2 ^ 63 - 1 ∧
      ∀ i j l, i < len → ls[j]? = some l → ∃ v, cs[i * ls.length + j]? = some v ∧ okCell l v := by
  obtain ⟨fuel, h⟩ := h
  cases fuel with
  | zero => simp [DataW.trod] at h
  | succ m =>
    simp only [Value.cells] at h
    unfold DataW.trod at h
    rw [ht] at h
    cases a with
    | none =>
      have : len = 0 := by
        match len, cap, h with
        | 0, _, _ => rfl
        | n + 1, _, h => simp at h
      subst this
      exact ⟨[], ⟨by simp [seg_zero], fun a ha => by cases ha⟩, by omega, fun i j l hi => by omega⟩
    | some a =>
      simp only [hl] at h
      split at h
      · rename_i hc
        rw [Option.bind_eq_some_iff] at h
        obtain ⟨es, he, -⟩ := h
        have hg := fun i (hi : i < len) => mapM_some_get he i i (by simp [hi])
        have hel := mapM_some_length he
        simp only [List.length_range] at hel
        have hcells : ∀ i, i < len → ∃ vs : List Value, (∀ j, j < ls.length → W.cell? (a.add (i * ls.length + j)) = vs[j]?) ∧ vs.length = ls.length ∧
            ∀ (j : Nat) (l : LK), ls[j]? = some l → ∃ v, vs[j]? = some v ∧ okCell l v := by
          intro i hi
          have hgi := hg i hi
          rw [List.getElem?_eq_getElem (by omega), Option.bind_eq_some_iff] at hgi
          obtain ⟨vs, hv, htr⟩ := hgi
          have hfl := trod_flat hf hl htr
          unfold World.cells? at hv
          simp only [Nat.zero_le, if_true] at hv
          refine ⟨vs, fun j hj => ?_, hfl.1, hfl.2⟩
          have hvj := mapM_some_get hv j j (by simp [hj])
          rw [← hvj]
          by_cases hz : j = 0 ∧ i * ls.length = 0
          · simp [hz.1, hz.2, Addr.add]
          · have hs : a.spot = none := by
              have h0 := mapM_some_get he 0 0 (List.getElem?_range (by omega))
              have hl0 : 0 < ls.length := by omega
              rw [List.getElem?_eq_getElem (by omega), Option.bind_eq_some_iff] at h0
              obtain ⟨vs0, hv0, htr0⟩ := h0
              have hf0 := trod_flat hf hl htr0
              unfold World.cells? at hv0
              simp only [Nat.zero_le, if_true] at hv0
              have := mapM_some_get hv0 0 0 (by simp [hl0])
              rw [List.getElem?_eq_getElem (by omega)] at this
              have := World.cell?_spot this
              simpa [Addr.add] using this
            rw [add_add _ _ _ hs]
        have hall : ∃ cs : List Value, cs.length = len * ls.length ∧ ∀ i j, i < len → j < ls.length → cs[i * ls.length + j]? = W.cell? (a.add (i * ls.length + j)) ∧ cs[i * ls.length + j]?.isSome := by
          refine ⟨(List.range (len * ls.length)).map fun k => (W.cell? (a.add k)).getD default, by simp, fun i j hi hj => ?_⟩
          have hlt : i * ls.length + j < len * ls.length := by
            have : (i + 1) * ls.length ≤ len * ls.length := Nat.mul_le_mul_right _ (by omega)
            rw [Nat.add_mul] at this; omega
          obtain ⟨vs, h1, h2, h3⟩ := hcells i hi
          have := h1 j hj
          rw [List.getElem?_eq_getElem (by omega)] at this
          simp [hlt, this]
        obtain ⟨cs, hcl, hcs⟩ := hall
        have hseg : (absW W.heap.size W).seg (some a) (len * ls.length) = some cs := by
          refine seg_absW hcl fun k hk => ?_
          have hz : 0 < ls.length := by
            rcases Nat.eq_zero_or_pos ls.length with h | h
            · rw [h] at hk; omega
            · exact h
          have hd : k / ls.length < len := (Nat.div_lt_iff_lt_mul hz).2 hk
          have := hcs (k / ls.length) (k % ls.length) hd (Nat.mod_lt _ hz)
          have ek : k / ls.length * ls.length + k % ls.length = k := by rw [Nat.mul_comm]; exact Nat.div_add_mod k _
          rw [ek] at this
          exact this.1.symm
        refine ⟨cs, ⟨hseg, fun x hx hp => by cases hx; exact blk_absW hseg hp⟩, by have := hc.2.2; unfold maxLen at this; omega, fun i j l hi hj => ?_⟩
        · have hj' : j < ls.length := by
            rcases Nat.lt_or_ge j ls.length with h | h
            · exact h
            · simp [List.getElem?_eq_none h] at hj
          obtain ⟨vs, h1, h2, h3⟩ := hcells i hi
          obtain ⟨v, hv, hk⟩ := h3 j l hj
          exact ⟨v, by rw [(hcs i j hi hj').1, h1 j hj', hv], hk⟩
      · cases h

theorem wf_i64 {n : Int} (h : (Lit.int .i64 n).wf = true) : -9223372036854775808 ≤ n ∧ n ≤ 9223372036854775807 := by
  have h1 : IntKind.i64.min = -9223372036854775808 := rfl
  have h2 : IntKind.i64.max = 9223372036854775807 := rfl
  simp only [Lit.wf, Bool.and_eq_true, decide_eq_true_eq] at h
  omega

/-- A row whose cells are all of int's kind. -/
theorem ints_of {z n : Nat} {cs : List Value} (hl : cs.length = n * z) (h : ∀ i j l, i < n → (List.replicate z (LK.int .i64))[j]? = some l → ∃ v, cs[i * z + j]? = some v ∧ okCell l v) :
    ∃ M : List Int, cs = ints M ∧ ∀ x ∈ M, -9223372036854775808 ≤ x ∧ x ≤ 9223372036854775807 := by
  have hk : ∀ k, k < cs.length → ∃ m, cs[k]? = some (.int .i64 m) ∧ -9223372036854775808 ≤ m ∧ m ≤ 9223372036854775807 := by
    intro k hk
    rw [hl] at hk
    have hz : 0 < z := by
      rcases Nat.eq_zero_or_pos z with h | h
      · rw [h] at hk; omega
      · exact h
    obtain ⟨v, hv, m, rfl, hw⟩ := h (k / z) (k % z) (.int .i64) ((Nat.div_lt_iff_lt_mul hz).2 hk) (by rw [List.getElem?_replicate, if_pos (Nat.mod_lt _ hz)])
    have ek : k / z * z + k % z = k := by rw [Nat.mul_comm]; exact Nat.div_add_mod k _
    rw [ek] at hv
    exact ⟨m, hv, wf_i64 hw⟩
  clear h hl
  induction cs with
  | nil => exact ⟨[], rfl, by simp⟩
  | cons v cs ih =>
    obtain ⟨M, hM, hw⟩ := ih fun k hk' => by
      obtain ⟨m, h1, h2⟩ := hk (k + 1) (by simp; omega)
      exact ⟨m, by simpa using h1, h2⟩
    obtain ⟨m, h1, h2⟩ := hk 0 (by simp)
    simp at h1
    subst h1
    refine ⟨m :: M, by simp [ints, hM], fun x hx => ?_⟩
    rcases List.mem_cons.1 hx with rfl | hx
    · exact h2
    · exact hw x hx

/-- A slice whose elements are of int's kind alone, as an argument. -/
theorem open_ints64 {e : TypeId} {z : Nat} {a : Option Addr} {len cap : Nat} {d : DataW H} {p : List MemPlace} (ht : P.underlying t = some (.slice e)) (hf : flat P e = some (List.replicate z (.int .i64))) (hl : P.cellsOf e = z)
    (h : DataW.Trod enc P W 0 (fun _ => true) true t (.slice a len cap) d p) :
    ∃ M, Rd (absW W.heap.size W) z ⟨a, len, cap⟩ (ints M) ∧ len ≤ 2 ^ 63 - 1 ∧ ∀ x ∈ M, -9223372036854775808 ≤ x ∧ x ≤ 9223372036854775807 := by
  obtain ⟨cs, h1, h2, h3⟩ := open_flat ht hf (by simpa using hl) h
  simp only [List.length_replicate] at h1 h3
  obtain ⟨M, rfl, hw⟩ := ints_of h1.len h3
  exact ⟨M, h1, h2, hw⟩

theorem okWide_array {n : Nat} {e : TypeId} {r : Reach} {b : Nat} {v : Value} (ht : P.underlying t = some (.array n e)) (h : Value.okWide P W r b t v) : ∃ cs, v = .agg cs ∧ cs.size = P.cellsOf t := by
  simp only [Value.okWide, ht] at h
  obtain ⟨cs, h1, h2, _⟩ := h
  exact ⟨cs, h1, h2⟩

/-- An aggregate of flat cells by value. -/
theorem open_agg_flat {ls : List LK} {v : Value} {d : DataW H} {p : List MemPlace} (hf : flat P t = some ls) (hl : P.cellsOf t = ls.length) (hv : ∃ cs, v = .agg cs ∧ cs.size = P.cellsOf t)
    (h : DataW.Trod enc P W 0 (fun _ => true) true t v d p) : ∃ vs : List Value, v = .agg ⟨vs⟩ ∧ vs.length = ls.length ∧ ∀ (i : Nat) (l : LK), ls[i]? = some l → ∃ x, vs[i]? = some x ∧ okCell l x := by
  obtain ⟨cs, rfl, -⟩ := hv
  obtain ⟨fuel, h⟩ := h
  obtain ⟨h1, h2⟩ := trod_flat hf hl h
  exact ⟨cs.toList, rfl, h1, h2⟩

theorem list_two {vs : List Value} {a b : Value} (hl : vs.length = 2) (h0 : vs[0]? = some a) (h1 : vs[1]? = some b) : vs = [a, b] := by
  match vs, hl with
  | [x, y], _ => simp at h0 h1; rw [h0, h1]

theorem list_three {vs : List Value} {a b c : Value} (hl : vs.length = 3) (h0 : vs[0]? = some a) (h1 : vs[1]? = some b) (h2 : vs[2]? = some c) : vs = [a, b, c] := by
  match vs, hl with
  | [x, y, z], _ => simp at h0 h1 h2; rw [h0, h1, h2]

end
end Go.Hx
