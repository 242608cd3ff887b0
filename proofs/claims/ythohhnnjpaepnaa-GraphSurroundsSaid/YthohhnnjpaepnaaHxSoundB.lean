/- The conditions on operations that only read are sound for the model's run: loads, struct making, slicing. No condition. -/
import Derived.Test.YthohhnnjpaepnaaHxSoundA
namespace Go.Hx
set_option linter.unusedSimpArgs false
set_option linter.unusedVariables false
open Go.RowKit

theorem underlying_info {P : Program} {t : TypeId} {d : TypeDesc} (h : P.underlying t = some d) : ∃ i, P.info? t = some i := by
  unfold Program.underlying at h
  cases hi : P.info? t with
  | none => simp [hi] at h
  | some i => exact ⟨i, rfl⟩

theorem run_isAgg {P : Program} {t : TypeId} {d : TypeDesc} (h : P.underlying t = some d) (w : World) : (isAgg t).run P w = .ok (isAg P t) w := by
  simp only [isAgg, underlying, Sem.run_bind, run_program, Result.andThen_ok, h, isAg]
  cases d <;> simp

theorem lks_under {P : Program} {n : Nat} {t : TypeId} {ls : List LK} (h : lks P n t = some ls) : ∃ d, P.underlying t = some d := by
  cases n with
  | zero => simp [lks] at h
  | succ n =>
    simp only [lks] at h
    cases hu : P.underlying t with
    | none => simp [hu] at h
    | some d => exact ⟨d, rfl⟩

theorem run_sizeOf {P : Program} {t : TypeId} {i : TypeInfo} (h : P.info? t = some i) (w : World) : (sizeOf t).run P w = .ok (P.cellsOf t) w := by
  simp [sizeOf, typeInfo, h, Program.cellsOf]

theorem xload_ok {P : Program} {t : TypeId} {h : Hp} {a : Addr} {K : Value → Prop} (hk : xload P t h a K) :
    ∃ v, K v ∧ LiesH h a v.cells.toList ∧ ∀ w, Lies w a v.cells.toList → (loadVar t a).run P w = .ok v w := by
  unfold xload at hk
  cases hl : lks P 9 t with
  | none => simp [hl] at hk
  | some ls =>
    obtain ⟨d, hd⟩ := lks_under hl
    obtain ⟨i, hi⟩ := underlying_info hd
    simp only [hl] at hk
    cases hag : isAg P t with
    | true =>
      simp only [hag] at hk
      cases hn : Nat.beq ls.length (P.cellsOf t) with
      | false => simp [hn] at hk
      | true =>
        simp only [hn] at hk
        have hn' : ls.length = P.cellsOf t := Nat.eq_of_beq_eq_true hn
        obtain ⟨vs, hK, hlen, hc⟩ := xloads_ok ls 0 _ hk
        refine ⟨_, hK, fun j u hu => ?_, fun w hw => ?_⟩
        · have := hc j u (by simpa [Value.cells] using hu)
          simpa using this
        · simp only [loadVar, Sem.run_bind, run_isAgg hd, Result.andThen_ok, hag, if_true, run_sizeOf hi]
          have hr := run_loadCells_list (P := P) (w := w) a vs (fun j v hj => hw j v (by simpa [Value.cells] using hj))
          rw [hlen, hn'] at hr
          simp [hr]
    | false =>
      simp only [hag] at hk
      match ls, hk with
      | [l], hk =>
        obtain ⟨v, hK, hv, hone⟩ := ld1_ok hk
        refine ⟨v, hK, fun j u hu => ?_, fun w hw => ?_⟩
        · rw [hone] at hu
          cases j with
          | zero => simp at hu; subst hu; rw [Addr.add_zero]; exact hv
          | succ j => simp at hu
        · have h0 := hw 0 v (by rw [hone]; rfl)
          rw [Addr.add_zero] at h0
          simp [loadVar, run_isAgg hd, hag, h0]

/-! ### Structs -/

theorem putAt_foldl (vs : List Value) : ∀ (cs : Array Value) (o : Nat) (k : Nat),
    ((vs.zipIdx k).foldl (fun (cs : Array Value) (c : Value × Nat) => cs.setIfInBounds (o + c.2) c.1) cs).toList = putAt cs.toList (o + k) vs := by
  induction vs with
  | nil => intro cs o k; simp [putAt]
  | cons v vs ih =>
    intro cs o k
    simp only [List.zipIdx_cons, List.foldl_cons, putAt]
    rw [ih]
    simp [Nat.add_assoc]

theorem length_putAt : ∀ (vs cs : List Value) (o : Nat), (putAt cs o vs).length = cs.length
  | [], cs, o => rfl
  | v :: vs, cs, o => by rw [putAt, length_putAt]; simp

theorem fill_ok (place : Nat → Option (Nat × Nat)) : ∀ (ps : List (Nat × Value)) (cs : Array Value) (r : List Value), xfill place cs.toList ps = some r →
    Instr.fill place cs ps = some r.toArray
  | [], cs, r, h => by simp [xfill] at h; subst h; simp [Instr.fill]
  | (i, v) :: ps, cs, r, h => by
    simp only [xfill] at h
    simp only [Instr.fill]
    cases hp : place i with
    | none => simp [hp] at h
    | some on =>
      obtain ⟨o, n⟩ := on
      simp only [hp] at h ⊢
      cases hb : Nat.beq v.cells.toList.length n && Nat.ble (o + n) cs.toList.length with
      | false => rw [hb] at h; cases h
      | true =>
        rw [hb] at h
        simp only [Bool.and_eq_true] at hb
        have h1 : v.cells.size = n := by simpa using Nat.eq_of_beq_eq_true hb.1
        have h2 : o + n ≤ cs.size := by simpa using Nat.le_of_ble_eq_true hb.2
        have hn : ¬ (v.cells.size ≠ n ∨ o + v.cells.size > cs.size) := by omega
        rw [if_neg (by simpa using hn)]
        have hf : (v.cells.zipIdx.foldl (fun (cs : Array Value) (x : Value × Nat) => cs.setIfInBounds (o + x.2) x.1) cs).toList = putAt cs.toList o v.cells.toList := by
          have := putAt_foldl v.cells.toList cs o 0
          rw [Nat.add_zero] at this
          rw [← this, ← Array.foldl_toList, Array.toList_zipIdx]
        have := fill_ok place ps (v.cells.zipIdx.foldl (fun (cs : Array Value) (x : Value × Nat) => cs.setIfInBounds (o + x.2) x.1) cs) r (by rw [hf]; exact h)
        exact this

end Go.Hx
