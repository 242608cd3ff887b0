/- Laws of the words of the printed conditions, used by hand-written proofs. No condition. -/
import Derived.Test.YthohhnnjpaepnaaHxSem
import Derived.Laws.BitsLemmas
namespace Go.Hx
set_option linter.unusedSimpArgs false
set_option linter.unusedVariables false

abbrev w64 (x : Int) : Int := IntKind.i64.wrap x

theorem w64_eq {x : Int} (h1 : -9223372036854775808 ≤ x) (h2 : x ≤ 9223372036854775807) : IntKind.i64.wrap x = x := by
  rw [IntKind.wrap_i64]; omega

theorem add_mk (b o n : Nat) : Addr.add ⟨b, o, none⟩ n = ⟨b, o + n, none⟩ := by
  unfold Addr.add; split <;> simp_all

theorem add_add (a : Addr) (m n : Nat) (h : a.spot = none) : (a.add m).add n = a.add (m + n) := by
  obtain ⟨b, o, s⟩ := a
  subst h
  simp [add_mk, Nat.add_assoc]

theorem cnd_of {b : Bool} {X Y : Prop} (h1 : b = true → X) (h2 : b = false → Y) : cnd b X Y := by
  cases b
  · exact h2 rfl
  · exact h1 rfl

theorem cnd_t {b : Bool} {X Y : Prop} (hb : b = true) (h : X) : cnd b X Y := by subst hb; exact h
theorem cnd_f {b : Bool} {X Y : Prop} (hb : b = false) (h : Y) : cnd b X Y := by subst hb; exact h

theorem cnd_true {X Y : Prop} : cnd true X Y = X := rfl
theorem cnd_false {X Y : Prop} : cnd false X Y = Y := rfl

theorem nn_of {a : Addr} {K : Addr → Prop} (h : K a) : nn (some a) K := ⟨a, rfl, h⟩
theorem nn_some (a : Addr) (K : Addr → Prop) : nn (some a) K = K a := by simp [nn]

theorem ldI_of {k : IntKind} {h : Hp} {a : Addr} {K : Int → Prop} {v : Int} (hc : h.cell a = some (.int k v)) (H : K v) : ldI k h a K := ⟨v, hc, H⟩
theorem ldB_of {h : Hp} {a : Addr} {K : Bool → Prop} {v : Bool} (hc : h.cell a = some (.bool v)) (H : K v) : ldB h a K := ⟨v, hc, H⟩
theorem ldP_of {h : Hp} {a : Addr} {K : Option Addr → Prop} {v : Option Addr} (hc : h.cell a = some (.pointer v)) (H : K v) : ldP h a K := ⟨v, hc, H⟩
theorem ldS_of {h : Hp} {a : Addr} {K : Sl → Prop} {p : Option Addr} {n c : Nat} (hc : h.cell a = some (.slice p n c)) (H : K ⟨p, n, c⟩) : ldS h a K := ⟨⟨p, n, c⟩, hc, H⟩
theorem ix_of {a : Addr} {n : Nat} {i : Int} {K : Addr → Prop} (h0 : 0 ≤ i) (h1 : i < n) (H : K a) : ix (some a) n i K := ⟨a, rfl, h0, h1, H⟩

/-- At a join: what holds there, what follows from it, and that it is come to so. -/
theorem jn_of {σ : Type} {R : σ → Hp → Prop} {f : (σ → Hp → Prop) → Prop} (C : σ → Hp → Prop) (h1 : ∀ s h, C s h → R s h) (h2 : ∀ K : σ → Hp → Prop, (∀ s h, C s h → K s h) → f K) : jn R f := h2 R h1

/-! ### Cells and blocks -/

theorem cell_own {h : Hp} {b : Nat} {xs : List Value} (hb : h.blk b = some (.cells xs)) (k : Nat) : h.cell ⟨b, k, none⟩ = xs[k]? := by
  simp [Hp.cell, hb]

theorem row_own {h : Hp} {b : Nat} {xs : List Value} (hb : h.blk b = some (.cells xs)) : h.row b = some xs := by
  simp [Hp.row, hb]

theorem cell_row {h : Hp} {b : Nat} {xs : List Value} (hb : h.row b = some xs) (k : Nat) : h.cell ⟨b, k, none⟩ = xs[k]? := by
  unfold Hp.row at hb
  unfold Hp.cell
  simp only [Option.isSome_none, Bool.false_eq_true, if_false]
  split at hb
  · rename_i ys hy
    cases hb
    rfl
  · rename_i c e f hy
    cases hb
    simp
  · cases hb

theorem cell_blk {h h' : Hp} {a : Addr} (hb : h'.blk a.block = h.blk a.block) : h'.cell a = h.cell a := by
  unfold Hp.cell; rw [hb]

theorem row_blk {h h' : Hp} {b : Nat} (hb : h'.blk b = h.blk b) : h'.row b = h.row b := by
  unfold Hp.row; rw [hb]

theorem seg_blk {h h' : Hp} {a : Option Addr} {m : Nat} (hb : ∀ x, a = some x → h'.blk x.block = h.blk x.block) : h'.seg a m = h.seg a m := by
  unfold Hp.seg
  split
  · rfl
  · cases a with
    | none => rfl
    | some x => simp only [row_blk (hb x rfl)]

theorem seg_row {h : Hp} {b o m : Nat} {xs : List Value} (hb : h.row b = some xs) (hl : o + m ≤ xs.length) :
    h.seg (some ⟨b, o, none⟩) m = some ((xs.drop o).take m) := by
  unfold Hp.seg
  by_cases hm : m = 0
  · simp [hm]
  · simp [hm, hb, hl]

theorem seg_zero (h : Hp) (a : Option Addr) : h.seg a 0 = some [] := rfl

theorem seg_inv {h : Hp} {a : Option Addr} {m : Nat} {cs : List Value} (hs : h.seg a m = some cs) (hm : 0 < m) :
    ∃ b o xs, a = some ⟨b, o, none⟩ ∧ h.row b = some xs ∧ o + m ≤ xs.length ∧ cs = (xs.drop o).take m := by
  unfold Hp.seg at hs
  rw [if_neg (by omega)] at hs
  cases a with
  | none => cases hs
  | some x =>
    obtain ⟨b, o, s⟩ := x
    cases s with
    | some s => simp at hs
    | none =>
      simp only [Option.isSome_none, Bool.false_eq_true, if_false] at hs
      split at hs
      · rename_i xs hx
        split at hs
        · simp at hs
          exact ⟨b, o, xs, rfl, hx, by assumption, hs.symm⟩
        · cases hs
      · cases hs

theorem seg_len {h : Hp} {a : Option Addr} {m : Nat} {cs : List Value} (hs : h.seg a m = some cs) : cs.length = m := by
  by_cases hm : m = 0
  · subst hm
    simp [seg_zero] at hs
    subst hs; rfl
  · obtain ⟨b, o, xs, -, -, hl, rfl⟩ := seg_inv hs (by omega)
    simp; omega

theorem seg_cell {h : Hp} {a : Addr} {m : Nat} {cs : List Value} (hs : h.seg (some a) m = some cs) {i : Nat} (hi : i < m) : h.cell (a.add i) = cs[i]? := by
  obtain ⟨b, o, xs, ha, hr, hl, rfl⟩ := seg_inv hs (by omega)
  cases ha
  rw [add_mk, cell_row hr, List.getElem?_take_of_lt hi, List.getElem?_drop]

theorem seg_some {h : Hp} {a : Option Addr} {m : Nat} {cs : List Value} (hs : h.seg a m = some cs) (hm : 0 < m) : ∃ x, a = some x ∧ x.spot = none := by
  obtain ⟨b, o, xs, ha, -⟩ := seg_inv hs hm
  exact ⟨_, ha, rfl⟩

/-- The blocks below a bound are kept, and none is lost. -/
structure Fr (B : Nat) (h h' : Hp) : Prop where
  size : h.size ≤ h'.size
  blk : ∀ c, c < B → h'.blk c = h.blk c

theorem Fr.refl (B : Nat) (h : Hp) : Fr B h h := ⟨Nat.le_refl _, fun _ _ => rfl⟩
theorem Fr.trans {B : Nat} {h h' h'' : Hp} (a : Fr B h h') (b : Fr B h' h'') : Fr B h h'' :=
  ⟨Nat.le_trans a.size b.size, fun c hc => (b.blk c hc).trans (a.blk c hc)⟩
theorem Fr.mono {B C : Nat} {h h' : Hp} (a : Fr B h h') (hc : C ≤ B) : Fr C h h' := ⟨a.size, fun c h => a.blk c (by omega)⟩
theorem Fr.push {h : Hp} (xs : List Value) : Fr h.size h (h.push xs) :=
  ⟨by simp [Hp.push], fun c hc => by simp [Hp.push]; omega⟩

theorem push_size (h : Hp) (xs : List Value) : (h.push xs).size = h.size + 1 := rfl
theorem push_new (h : Hp) (xs : List Value) : (h.push xs).blk h.size = some (.cells xs) := by simp [Hp.push]
theorem push_old (h : Hp) (xs : List Value) {c : Nat} (hc : c ≠ h.size) : (h.push xs).blk c = h.blk c := by simp [Hp.push, hc]
theorem set_size (h : Hp) (a : Addr) (v : Value) : (h.set a v).size = h.size := rfl
theorem set_new {h : Hp} {b k : Nat} {xs : List Value} (v : Value) (hb : h.blk b = some (.cells xs)) : (h.set ⟨b, k, none⟩ v).blk b = some (.cells (xs.set k v)) := by
  simp [Hp.set, Hp.upd, hb]
theorem set_old {h : Hp} {a : Addr} (v : Value) {c : Nat} (hc : c ≠ a.block) : (h.set a v).blk c = h.blk c := by
  simp [Hp.set, Hp.upd, hc]
theorem wr_own {h : Hp} {b k : Nat} {xs : List Value} (hb : h.blk b = some (.cells xs)) (hk : k < xs.length) : h.wr ⟨b, k, none⟩ := ⟨rfl, xs, hb, hk⟩

theorem stc_of {h : Hp} {b k : Nat} {v : Value} {K : Hp → Prop} {xs : List Value} (hb : h.blk b = some (.cells xs)) (hk : k < xs.length)
    (H : ∀ h' : Hp, h'.size = h.size → h'.blk b = some (.cells (xs.set k v)) → (∀ c, c ≠ b → h'.blk c = h.blk c) → K h') : stc h ⟨b, k, none⟩ v K :=
  ⟨wr_own hb hk, H _ rfl (set_new v hb) fun _ hc => set_old v hc⟩

theorem alo_of {h : Hp} {xs : List Value} {K : Addr → Hp → Prop}
    (H : ∀ h' : Hp, h'.size = h.size + 1 → h'.blk h.size = some (.cells xs) → (∀ c, c < h.size → h'.blk c = h.blk c) → K ⟨h.size, 0, none⟩ h') : alo h xs K :=
  H _ rfl (push_new h xs) fun _ hc => push_old h xs (by omega)

theorem mks_of {bytes : Nat} {z : List Value} {n c : Int} {h : Hp} {K : Sl → Hp → Prop} (h0 : 0 ≤ n) (h1 : n ≤ c) (h2 : bytes * c ≤ 2 ^ 48)
    (H : ∀ h' : Hp, h'.size = h.size + 1 → h'.blk h.size = some (.cells (zrow z c.toNat)) → (∀ c, c < h.size → h'.blk c = h.blk c) → K ⟨some ⟨h.size, 0, none⟩, n.toNat, c.toNat⟩ h') : mks bytes z n c h K :=
  ⟨h0, h1, h2, H _ rfl (push_new h _) fun _ hc => push_old h _ (by omega)⟩

theorem setl_blk {h : Hp} {b o : Nat} {xs : List Value} (vs : List Value) (i : Nat) (hb : h.blk b = some (.cells xs)) (hl : o + i + vs.length ≤ xs.length) :
    (h.setl ⟨b, o, none⟩ vs i).size = h.size ∧ (h.setl ⟨b, o, none⟩ vs i).blk b = some (.cells (xs.take (o + i) ++ vs ++ xs.drop (o + i + vs.length))) ∧
      ∀ c, c ≠ b → (h.setl ⟨b, o, none⟩ vs i).blk c = h.blk c := by
  induction vs generalizing h xs i with
  | nil => simp [Hp.setl, hb]
  | cons v vs ih =>
    unfold Hp.setl
    rw [add_mk]
    simp at hl
    have := ih (h := h.set ⟨b, o + i, none⟩ v) (xs := xs.set (o + i) v) (i + 1) (set_new v hb) (by simp; omega)
    obtain ⟨h1, h2, h3⟩ := this
    refine ⟨h1, ?_, fun c hc => (h3 c hc).trans (set_old v hc)⟩
    rw [h2]
    congr 2
    rw [← Nat.add_assoc, List.take_set, List.take_add_one, List.drop_set_of_lt (by omega)]
    have : (xs.take (o + i) ++ xs[o + i]?.toList).set (o + i) v = xs.take (o + i) ++ [v] := by
      rw [List.set_append]
      simp
      rw [Nat.min_eq_left (by omega)]
      simp
      have : xs[o + i]? = some (xs[o + i]'(by omega)) := List.getElem?_eq_getElem (by omega)
      rw [this]; simp
    rw [this]
    simp
    congr 1; omega

/-- A list under construction: nil, or a row of the program's own, not below a bound. -/
def Lst (h : Hp) (z : Nat) (s : Sl) (cs : List Value) (B : Nat) : Prop :=
  s.n * z = cs.length ∧ s.n ≤ s.c ∧ ((s = ⟨none, 0, 0⟩ ∧ cs = []) ∨
    ∃ b sp, s.a = some ⟨b, 0, none⟩ ∧ B ≤ b ∧ b < h.size ∧ h.blk b = some (.cells (cs ++ sp)) ∧ (cs ++ sp).length = s.c * z)

theorem Lst.nil (h : Hp) (z B : Nat) : Lst h z ⟨none, 0, 0⟩ [] B := ⟨by simp, Nat.le_refl _, .inl ⟨rfl, rfl⟩⟩

theorem Lst.eta {h : Hp} {z : Nat} {s : Sl} {cs : List Value} {B : Nat} (hl : Lst h z s cs B) : Lst h z ⟨s.a, s.n, s.c⟩ cs B := hl

theorem Lst.seg {h : Hp} {z : Nat} {s : Sl} {cs : List Value} {B : Nat} (hl : Lst h z s cs B) : h.seg s.a (s.n * z) = some cs := by
  obtain ⟨h1, h2, ⟨rfl, rfl⟩ | ⟨b, sp, ha, hB, hb, hc, hs⟩⟩ := hl
  · simp [Hp.seg]
  · rw [ha, seg_row (row_own hc) (by rw [h1, List.length_append]; omega), h1]
    simp

theorem Lst.keep {h h' : Hp} {z : Nat} {s : Sl} {cs : List Value} {B : Nat} (hl : Lst h z s cs B) (hz : h.size ≤ h'.size)
    (hb : ∀ a, s.a = some a → h'.blk a.block = h.blk a.block) : Lst h' z s cs B := by
  obtain ⟨h1, h2, h3 | ⟨b, sp, ha, hB, hb', hc, hs⟩⟩ := hl
  · exact ⟨h1, h2, .inl h3⟩
  · exact ⟨h1, h2, .inr ⟨b, sp, ha, hB, by omega, (hb _ ha).trans hc, hs⟩⟩

theorem Lst.le {h : Hp} {z : Nat} {s : Sl} {cs : List Value} {B C : Nat} (hl : Lst h z s cs B) (hc : C ≤ B) : Lst h z s cs C := by
  obtain ⟨h1, h2, h3 | ⟨b, sp, ha, hB, h3⟩⟩ := hl
  · exact ⟨h1, h2, .inl h3⟩
  · exact ⟨h1, h2, .inr ⟨b, sp, ha, by omega, h3⟩⟩

theorem Lst.blk_lt {h : Hp} {z : Nat} {s : Sl} {cs : List Value} {B : Nat} (hl : Lst h z s cs B) {a : Addr} (ha : s.a = some a) : B ≤ a.block ∧ a.block < h.size ∧ a = ⟨a.block, 0, none⟩ := by
  obtain ⟨h1, h2, ⟨rfl, -⟩ | ⟨b, sp, ha', hB, h3, -⟩⟩ := hl
  · cases ha
  · rw [ha'] at ha; cases ha
    exact ⟨hB, h3, rfl⟩

theorem zrow_len (z : List Value) (n : Nat) : (zrow z n).length = n * z.length := by
  unfold zrow
  induction n with
  | zero => simp
  | succ n ih => rw [List.replicate_succ, List.flatten_cons, List.length_append, ih, Nat.add_mul]; omega

theorem app_lst {z bytes : Nat} {zz : List Value} {s x : Sl} {h : Hp} {K : Sl → Hp → Prop} {cs news : List Value} {B : Nat}
    (hl : Lst h z s cs B) (hB : B ≤ h.size) (hn : h.seg x.a (x.n * z) = some news) (ho : ∀ v ∈ news, v.oneCell = true)
    (hzz : zz.length = z) (hby : (s.n + x.n) * bytes ≤ 2 ^ 47) (hc : s.n + x.n < 2 ^ 63)
    (H : ∀ s' h', Lst h' z s' (cs ++ news) B → s'.n = s.n + x.n → h.size ≤ h'.size → Fr B h h' →
      (∀ c, c < h.size → (∀ a, s.a = some a → c ≠ a.block) → h'.blk c = h.blk c) → (s'.a = s.a ∨ s'.a = some ⟨h.size, 0, none⟩) → K s' h') :
    app z bytes zz s x h K := by
  have hxl := seg_len hn
  refine ⟨cs, news, hl.seg, hn, ho, fun hle => ⟨fun a ha => ?_, ?_⟩, fun hlt => ⟨hby, hc, fun cap hcap => ?_⟩⟩
  · obtain ⟨h1, h2, ⟨rfl, rfl⟩ | ⟨b, sp, ha', hB, hb, hc, hs⟩⟩ := hl
    · cases ha
    · rw [ha'] at ha; cases ha
      refine ⟨rfl, fun hp => ⟨_, hc, ?_⟩⟩
      rw [hs]
      simp only [Nat.zero_add]
      exact Nat.mul_le_mul_right _ hle
  · obtain ⟨h1, h2, ⟨rfl, rfl⟩ | ⟨b, sp, ha', hB, hb, hc, hs⟩⟩ := hl
    · simp at hle
      have hx0 : x.n = 0 := by simpa using hle
      have : news = [] := List.eq_nil_of_length_eq_zero (by rw [hxl, hx0]; simp)
      subst this
      simp only [hx0]
      exact H _ _ (Lst.nil _ _ _) (by simp [hx0]) (Nat.le_refl _) (Fr.refl _ _) (fun _ _ _ => rfl) (.inl rfl)
    · rw [ha']
      simp only [add_mk]
      have hm : (s.n + x.n) * z ≤ s.c * z := Nat.mul_le_mul_right _ hle
      rw [Nat.add_mul] at hm
      obtain ⟨g1, g2, g3⟩ := setl_blk (h := h) (o := 0 + s.n * z) news 0 hc (by rw [hs, hxl]; omega)
      have e : (cs ++ sp).take (0 + s.n * z + 0) ++ news ++ (cs ++ sp).drop (0 + s.n * z + 0 + news.length) = (cs ++ news) ++ sp.drop news.length := by
        rw [show 0 + s.n * z + 0 = cs.length by omega]
        simp [List.drop_append]
      rw [e] at g2
      refine H _ _ ⟨?_, hle, .inr ⟨b, sp.drop news.length, rfl, hB, by rw [g1]; exact hb, g2, ?_⟩⟩ rfl (Nat.le_of_eq g1.symm) ⟨Nat.le_of_eq g1.symm, fun c hcB => g3 c (by omega)⟩ (fun c _ hne => g3 c (hne _ ha')) (.inl (by rw [ha']))
      · simp only [Nat.add_mul, List.length_append, h1, hxl]
      · rw [← e]
        simp only [List.length_append, List.length_take, List.length_drop]
        rw [← List.length_append, hs, hxl]; omega
  · have hl1 := hl.1
    refine H _ _ ⟨?_, hcap, .inr ⟨h.size, _, rfl, hB, by simp [push_size], push_new _ _, ?_⟩⟩ rfl (by simp [push_size]) ⟨by simp [push_size], fun c hc => push_old _ _ (by omega)⟩ (fun c hc _ => push_old _ _ (by omega)) (.inr rfl)
    · simp only [Nat.add_mul, List.length_append, hl1, hxl]
    · simp only [List.length_append, zrow_len, hzz, ← hl1, hxl]
      rw [← Nat.add_mul, ← Nat.add_mul]
      congr 1; omega

/-! ### Loops -/

theorem loop_of {σ : Type} {body : (σ → Hp → Prop) → σ → Hp → Prop} (I : Nat → σ → Hp → Prop)
    (step : ∀ n K s h, I n s h → (∀ m, m + 1 = n → ∀ s' h', I m s' h' → K s' h') → body K s h) {n : Nat} {s : σ} {h : Hp} (h0 : I n s h) : loopP body s h := by
  refine ⟨n + 1, ?_⟩
  induction n generalizing s h with
  | zero => exact step 0 _ s h h0 (fun m hm => by omega)
  | succ n ih => exact step (n + 1) _ s h h0 (fun m hm s' h' hI => by
      have : m = n := by omega
      subst this
      exact ih hI)

/-! ### Rows of integers -/

def ints (l : List Int) : List Value := l.map (.int .i64)

theorem ints_len (l : List Int) : (ints l).length = l.length := by simp [ints]
theorem ints_get (l : List Int) (i : Nat) : (ints l)[i]? = (l[i]?).map (.int .i64) := by simp [ints]
theorem ints_get' {l : List Int} {i : Nat} (hi : i < l.length) : (ints l)[i]? = some (.int .i64 l[i]) := by
  rw [ints_get, List.getElem?_eq_getElem hi]; rfl
theorem ints_set (l : List Int) (i : Nat) (v : Int) : (ints l).set i (.int .i64 v) = ints (l.set i v) := by
  simp [ints]
theorem ints_one (l : List Int) : ∀ v ∈ ints l, v.oneCell = true := by
  intro v hv
  simp [ints] at hv
  obtain ⟨a, -, rfl⟩ := hv
  rfl
theorem ints_app (l m : List Int) : ints (l ++ m) = ints l ++ ints m := by simp [ints]

theorem ints_getD {l : List Int} {i : Nat} (hi : i < l.length) : (ints l)[i]? = some (.int .i64 (l.getD i 0)) := by
  rw [ints_get' hi]
  simp [List.getD, List.getElem?_eq_getElem hi]

theorem ix_seg {h : Hp} {a : Option Addr} {n m : Nat} {i : Int} {cs : List Value} {K : Addr → Prop} (hs : h.seg a m = some cs) (hm : 0 < m) (h0 : 0 ≤ i) (h1 : i < n)
    (H : ∀ x, a = some x → x.spot = none → (∀ k, k < m → h.cell (x.add k) = cs[k]?) → K x) : ix a n i K := by
  obtain ⟨x, rfl, hx⟩ := seg_some hs hm
  exact ⟨x, rfl, h0, h1, H x rfl hx fun k hk => seg_cell hs hk⟩

theorem flatMap_succ {α : Type} (f : Nat → List α) (n : Nat) : (List.range (n + 1)).flatMap f = (List.range n).flatMap f ++ f n := by
  simp [List.range_succ]

theorem flatMap_len {α : Type} (f : Nat → List α) (c n : Nat) (h : ∀ i, (f i).length ≤ c) : ((List.range n).flatMap f).length ≤ n * c := by
  induction n with
  | zero => simp
  | succ n ih => rw [flatMap_succ, List.length_append, Nat.add_mul]; have := h n; omega

/-- A counting loop. -/
theorem for_of {σ : Type} {body : (σ → Hp → Prop) → σ → Hp → Prop} (n : Nat) (I : Nat → σ → Hp → Prop)
    (step : ∀ i K s h, i ≤ n → I i s h → (i < n → ∀ s' h', I (i + 1) s' h' → K s' h') → body K s h) {s : σ} {h : Hp} (h0 : I 0 s h) : loopP body s h := by
  refine loop_of (fun m s h => m ≤ n ∧ I (n - m) s h) (fun m K s h hI hK => step (n - m) K s h (by omega) hI.2 fun hl s' h' hI' => ?_) (n := n) (by simpa using h0)
  exact hK (m - 1) (by omega) s' h' ⟨by omega, by rw [show n - (m - 1) = n - m + 1 by omega]; exact hI'⟩

/-- A slice that can be read: its cells, in a block that is there. -/
def Rd (h : Hp) (z : Nat) (s : Sl) (cs : List Value) : Prop := h.seg s.a (s.n * z) = some cs ∧ ∀ a, s.a = some a → 0 < s.n * z → a.block < h.size

theorem Rd.fr {h h' : Hp} {z : Nat} {s : Sl} {cs : List Value} (r : Rd h z s cs) (f : Fr h.size h h') : Rd h' z s cs := by
  refine ⟨?_, fun a ha hp => by have := r.2 a ha hp; have := f.size; omega⟩
  by_cases hz : s.n * z = 0
  · rw [hz, seg_zero, ← seg_zero h s.a, ← hz]; exact r.1
  · rw [seg_blk fun a ha => f.blk _ (r.2 a ha (by omega))]; exact r.1

theorem Rd.len {h : Hp} {z : Nat} {s : Sl} {cs : List Value} (r : Rd h z s cs) : cs.length = s.n * z := seg_len r.1

theorem Rd.ilen {h : Hp} {z : Nat} {s : Sl} {M : List Int} (r : Rd h z s (ints M)) : M.length = s.n * z := by rw [← r.len, ints_len]

theorem Lst.rd {h : Hp} {z : Nat} {s : Sl} {cs : List Value} {B : Nat} (hl : Lst h z s cs B) : Rd h z s cs := ⟨hl.seg, fun _ ha _ => (hl.blk_lt ha).2.1⟩

theorem Lst.fr {h h' : Hp} {z : Nat} {s : Sl} {cs : List Value} {B : Nat} (hl : Lst h z s cs B) (f : Fr h.size h h') : Lst h' z s cs B :=
  hl.keep f.size fun _ ha => f.blk _ (hl.blk_lt ha).2.1

/-- Reading an element of a slice of integers. -/
theorem ix_rd {h : Hp} {z : Nat} {s : Sl} {M : List Int} {i : Int} {K : Addr → Prop} (r : Rd h z s (ints M)) (hz : 0 < z) (h0 : 0 ≤ i) (h1 : i < s.n)
    (H : ∀ x : Addr, x.spot = none → (∀ k, k < z → h.cell (x.add (i.toNat * z + k)) = some (.int .i64 (M.getD (i.toNat * z + k) 0))) → K x) : ix s.a s.n i K := by
  have hlt : ∀ k, k < z → i.toNat * z + k < s.n * z := fun k hk => by
    have : (i.toNat + 1) * z ≤ s.n * z := Nat.mul_le_mul_right _ (by omega)
    rw [Nat.add_mul] at this; omega
  refine ix_seg r.1 (by have := hlt 0 hz; omega) h0 h1 fun x hx hs hc => H x hs fun k hk => ?_
  rw [hc _ (hlt k hk), ints_getD (by rw [r.ilen]; exact hlt k hk)]

theorem ix_ld1 {h h' : Hp} {s : Sl} {M : List Int} {i : Int} {K : Int → Prop} (r : Rd h' 1 s (ints M)) (h0 : 0 ≤ i) (h1 : i < s.n) (he : h' = h)
    (H : K (M.getD i.toNat 0)) : ix s.a s.n i fun a => ldI .i64 h (a.add (Int.toNat i * 1)) K := by
  subst he
  exact ix_rd r (by omega) h0 h1 fun x _ hx => ldI_of (by have := hx 0 (by omega); simpa using this) H

theorem Lst.set1 {h h' : Hp} {s : Sl} {M : List Int} {B : Nat} {k : Nat} {v : Int} {x : Addr} (hl : Lst h 1 s (ints M) B) (hk : k < M.length) (hx : s.a = some x) (hz : h'.size = h.size)
    (hb : ∀ xs, h.blk x.block = some (.cells xs) → h'.blk x.block = some (.cells (xs.set k (.int .i64 v)))) : Lst h' 1 s (ints (M.set k v)) B := by
  obtain ⟨h1, h2, ⟨rfl, h3⟩ | ⟨b, sp, ha, hB, hb', hc, hs⟩⟩ := hl
  · cases hx
  · rw [hx] at ha
    cases ha
    refine ⟨by simpa [ints_len] using h1, h2, .inr ⟨b, sp, hx, hB, by omega, ?_, by simpa [ints_len] using hs⟩⟩
    rw [hb _ hc, List.set_append, if_pos (by rw [ints_len]; exact hk), ints_set]

/-- A store into a list of integers. -/
theorem ix_st1 {h h0' : Hp} {s : Sl} {M : List Int} {B : Nat} {i v : Int} {K : Hp → Prop} (hl : Lst h0' 1 s (ints M) B) (h0 : 0 ≤ i) (h1 : i < s.n) (he : h0' = h)
    (H : ∀ h' : Hp, h'.size = h.size → Lst h' 1 s (ints (M.set i.toNat v)) B → (∀ c, (∀ x, s.a = some x → c ≠ x.block) → h'.blk c = h.blk c) → K h') :
    ix s.a s.n i fun a => stc h ((a.add (Int.toNat i * 1)).add 0) (.int .i64 v) K := by
  subst he
  have hlen : M.length = s.n := by have := hl.1; rw [ints_len] at this; omega
  obtain ⟨h1', h2, ⟨rfl, h3⟩ | ⟨b, sp, ha, hB, hb', hc, hs⟩⟩ := id hl
  · simp only at h1; omega
  · refine ⟨_, ha, h0, h1, ?_⟩
    simp only [add_mk]
    refine stc_of hc (by simp [ints_len]; omega) fun h' hz hb hk => H h' hz ?_ fun c hc' => hk c (hc' _ ha)
    refine hl.set1 (by omega) ha hz fun xs hx => ?_
    rw [hc] at hx
    cases hx
    simpa using hb

def nats (l : List Nat) : List Int := l.map Int.ofNat

theorem nats_len (l : List Nat) : (nats l).length = l.length := by simp [nats]
theorem nats_getD (l : List Nat) (i : Nat) : (nats l).getD i 0 = ((l.getD i 0 : Nat) : Int) := by
  simp only [nats, List.getD, List.getElem?_map]
  cases l[i]? <;> rfl
theorem nats_set (l : List Nat) (i v : Nat) : (nats l).set i (v : Int) = nats (l.set i v) := by simp [nats]
theorem nats_app (l m : List Nat) : nats (l ++ m) = nats l ++ nats m := by simp [nats]
theorem nats_inj {l m : List Nat} (h : nats l = nats m) : l = m := by
  induction l generalizing m with
  | nil => cases m with
    | nil => rfl
    | cons b m => simp [nats] at h
  | cons a l ih => cases m with
    | nil => simp [nats] at h
    | cons b m =>
      simp only [nats, List.map_cons, List.cons.injEq] at h
      rw [Int.ofNat.inj h.1, ih h.2]

/-- Not in the list's block. -/
abbrev nb (s : Sl) (c : Nat) : Prop := ∀ x, s.a = some x → c ≠ x.block

/-- One integer behind a list. -/
theorem app1_spec {h : Hp} {s : Sl} {M : List Int} {B : Nat} {v : Int} {K : Sl → Hp → Prop} (hl : Lst h 1 s (ints M) B) (hB : B ≤ h.size) (hn : s.n < 2 ^ 40)
    (H : ∀ s' h', Lst h' 1 s' (ints (M ++ [v])) B → h.size ≤ h'.size → (∀ c, c < h.size → nb s c → h'.blk c = h.blk c ∧ nb s' c) → K s' h') :
    alo h [.int .i64 v] fun a8 h9 => app 1 8 [.int .i64 0] ⟨s.a, s.n, s.c⟩ ⟨some a8, 1, 1⟩ h9 fun s10 h11 => K s10 h11 := by
  refine alo_of fun h9 z9 b9 k9 => ?_
  have f9 : Fr h.size h h9 := ⟨by omega, k9⟩
  refine app_lst (hl.fr f9).eta (by omega) (news := [.int .i64 v]) (by rw [seg_row (row_own b9) (by simp)]; rfl) (by simp [Value.oneCell]) rfl (by simp only; omega) (by simp only; omega) fun s' h' hl' _ hz fr ho ha => ?_
  refine H s' h' (by rw [ints_app]; exact hl') (by omega) fun c hc hnb => ⟨by rw [ho c (by omega) hnb, k9 c hc], fun x hx => ?_⟩
  rcases ha with ha | ha
  · rw [ha] at hx; exact hnb x hx
  · rw [ha] at hx; cases hx; simp only; omega

/-- One value of one cell behind a list. -/
theorem app1v_spec {h : Hp} {s : Sl} {cs : List Value} {B bytes : Nat} {v z : Value} {K : Sl → Hp → Prop} (hl : Lst h 1 s cs B) (hB : B ≤ h.size) (hv : v.oneCell = true) (hn : s.n < 2 ^ 40) (hby : bytes ≤ 64)
    (H : ∀ s' h', Lst h' 1 s' (cs ++ [v]) B → h.size ≤ h'.size → (∀ c, c < h.size → nb s c → h'.blk c = h.blk c ∧ nb s' c) → K s' h') :
    alo h [v] fun a8 h9 => app 1 bytes [z] ⟨s.a, s.n, s.c⟩ ⟨some a8, 1, 1⟩ h9 fun s10 h11 => K s10 h11 := by
  refine alo_of fun h9 z9 b9 k9 => ?_
  have f9 : Fr h.size h h9 := ⟨by omega, k9⟩
  have hb : (s.n + 1) * bytes ≤ 2 ^ 47 := by
    have : (s.n + 1) * bytes ≤ (2 ^ 40) * 64 := Nat.mul_le_mul (by omega) hby
    omega
  refine app_lst (hl.fr f9).eta (by omega) (news := [v]) (by rw [seg_row (row_own b9) (by simp)]; rfl) (by simp [hv]) rfl hb (by simp only; omega) fun s' h' hl' _ hz fr ho ha => ?_
  refine H s' h' hl' (by omega) fun c hc hnb => ⟨by rw [ho c (by omega) hnb, k9 c hc], fun x hx => ?_⟩
  rcases ha with ha | ha
  · rw [ha] at hx; exact hnb x hx
  · rw [ha] at hx; cases hx; simp only; omega

/-! ### Lists of lists -/

def slv (s : Sl) : Value := .slice s.a s.n s.c

/-- A list of lists of numbers, to be read. -/
def Grp (h : Hp) (s : Sl) (G : List (List Nat)) : Prop :=
  ∃ ss : List Sl, Rd h 1 s (ss.map slv) ∧ ss.length = G.length ∧ ∀ j, j < G.length → Rd h 1 (ss.getD j ⟨none, 0, 0⟩) (ints (nats (G.getD j [])))

theorem Grp.fr {h h' : Hp} {s : Sl} {G : List (List Nat)} (g : Grp h s G) (f : Fr h.size h h') : Grp h' s G := by
  obtain ⟨ss, h1, h2, h3⟩ := g
  exact ⟨ss, h1.fr f, h2, fun j hj => (h3 j hj).fr f⟩

theorem Grp.len {h : Hp} {s : Sl} {G : List (List Nat)} (g : Grp h s G) : s.n = G.length := by
  obtain ⟨ss, h1, h2, h3⟩ := g
  have := h1.len
  simp at this; omega

/-- Reading one of the lists. -/
theorem Grp.ix {h : Hp} {s : Sl} {G : List (List Nat)} {i : Int} {K : Sl → Prop} (g : Grp h s G) (h0 : 0 ≤ i) (h1 : i < s.n) (H : ∀ t, Rd h 1 t (ints (nats (G.getD i.toNat []))) → K t) :
    ix s.a s.n i fun a => ldS h (a.add (Int.toNat i * 1)) K := by
  have hl := g.len
  obtain ⟨ss, r, h2, h3⟩ := g
  refine ix_seg r.1 (by omega) h0 h1 fun x hx hs hc => ?_
  have hi : i.toNat < ss.length := by omega
  refine ldS_of (p := (ss.getD i.toNat ⟨none, 0, 0⟩).a) (n := (ss.getD i.toNat ⟨none, 0, 0⟩).n) (c := (ss.getD i.toNat ⟨none, 0, 0⟩).c) ?_ (H _ (h3 _ (by omega)))
  rw [hc _ (by omega), Nat.mul_one, List.getElem?_map, List.getElem?_eq_getElem hi]
  simp [List.getD, List.getElem?_eq_getElem hi, slv]

/-- A list of lists under construction. -/
def GrpO (h : Hp) (s : Sl) (G : List (List Nat)) (B : Nat) : Prop :=
  ∃ ss : List Sl, Lst h 1 s (ss.map slv) B ∧ ss.length = G.length ∧ ∀ j, j < G.length → Lst h 1 (ss.getD j ⟨none, 0, 0⟩) (ints (nats (G.getD j []))) B ∧ ∀ x, (ss.getD j ⟨none, 0, 0⟩).a = some x → nb s x.block

theorem GrpO.grp {h : Hp} {s : Sl} {G : List (List Nat)} {B : Nat} (g : GrpO h s G B) : Grp h s G := by
  obtain ⟨ss, h1, h2, h3⟩ := g
  exact ⟨ss, h1.rd, h2, fun j hj => (h3 j hj).1.rd⟩

theorem GrpO.fr {h h' : Hp} {s : Sl} {G : List (List Nat)} {B : Nat} (g : GrpO h s G B) (f : Fr h.size h h') : GrpO h' s G B := by
  obtain ⟨ss, h1, h2, h3⟩ := g
  exact ⟨ss, h1.fr f, h2, fun j hj => ⟨(h3 j hj).1.fr f, (h3 j hj).2⟩⟩

theorem GrpO.nil (h : Hp) (B : Nat) : GrpO h ⟨none, 0, 0⟩ [] B := ⟨[], Lst.nil _ _ _, rfl, fun j hj => by simp at hj⟩

theorem GrpO.len {h : Hp} {s : Sl} {G : List (List Nat)} {B : Nat} (g : GrpO h s G B) : s.n = G.length := g.grp.len

/-- One list more. -/
theorem GrpO.app {h : Hp} {s t : Sl} {G : List (List Nat)} {M : List Nat} {B : Nat} {z : Value} {K : Sl → Hp → Prop} (g : GrpO h s G B) (hB : B ≤ h.size) (ht : Lst h 1 t (ints (nats M)) B) (hd : ∀ x, t.a = some x → nb s x.block)
    (hn : s.n < 2 ^ 40) (H : ∀ s' h', GrpO h' s' (G ++ [M]) B → h.size ≤ h'.size → (∀ c, c < h.size → nb s c → h'.blk c = h.blk c ∧ nb s' c) → K s' h') :
    alo h [.slice t.a t.n t.c] fun a8 h9 => app 1 24 [z] ⟨s.a, s.n, s.c⟩ ⟨some a8, 1, 1⟩ h9 fun s10 h11 => K s10 h11 := by
  obtain ⟨ss, h1, h2, h3⟩ := g
  refine app1v_spec h1 hB rfl hn (by decide) fun s' h' hl hz hk => H s' h' ⟨ss ++ [t], by simpa [slv] using hl, by simp [h2], fun j hj => ?_⟩ hz hk
  simp at hj
  by_cases hj' : j < G.length
  · obtain ⟨g1, g2⟩ := h3 j hj'
    rw [show (ss ++ [t]).getD j ⟨none, 0, 0⟩ = ss.getD j ⟨none, 0, 0⟩ by simp only [List.getD]; rw [List.getElem?_append_left (by omega)],
      show (G ++ [M]).getD j [] = G.getD j [] by simp only [List.getD]; rw [List.getElem?_append_left hj']]
    exact ⟨g1.keep hz fun x hx => (hk _ (g1.blk_lt hx).2.1 (g2 x hx)).1, fun x hx => (hk _ (g1.blk_lt hx).2.1 (g2 x hx)).2⟩
  · obtain rfl : j = G.length := by omega
    have e1 : (ss ++ [t]).getD G.length ⟨none, 0, 0⟩ = t := by rw [← h2]; simp [List.getD]
    have e2 : (G ++ [M]).getD G.length [] = M := by simp [List.getD]
    rw [e1, e2]
    exact ⟨ht.keep hz fun x hx => (hk _ (ht.blk_lt hx).2.1 (hd x hx)).1, fun x hx => (hk _ (ht.blk_lt hx).2.1 (hd x hx)).2⟩

end Go.Hx
