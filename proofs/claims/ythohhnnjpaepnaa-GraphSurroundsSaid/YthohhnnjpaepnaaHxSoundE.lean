/- Operations that make, write, append: if the condition holds, the model's run goes through. No condition. -/
import Derived.Test.YthohhnnjpaepnaaHxSoundD
import Derived.Laws.MakeOwn
namespace Go.Hx
set_option linter.unusedSimpArgs false
set_option linter.unusedVariables false
open Go.RowKit

theorem below_push {B : Nat} {w : World} (hB : B ≤ w.heap.size) (o : Obj) : Bel B w { w with heap := w.heap.push o } :=
  (Bel.refl B w).alloc hB o

theorem oneCell_eq (v : Value) : v.oneCell' = v.oneCell := by cases v <;> rfl

theorem stc_ok {B : Nat} {w : World} {a : Addr} {v : Value} {K : Hp → Prop} (h1 : v.oneCell = true) (hk : stc (absW B w) a v K) (P : Program) :
    ∃ w', (store a v).run P w = .ok () w' ∧ Bel B w w' ∧ K (absW B w') := by
  obtain ⟨hw, hK⟩ := hk
  obtain ⟨hB, ⟨u, hu⟩, hf, _, _⟩ := wr_absW hw
  refine ⟨w.setCell a v, ?_, (Bel.refl B w).setCell hB v, by rw [set_absW v hw]; exact hK⟩
  rw [run_store P w a v .plain (by rw [oneCell_eq]; exact h1), hu]
  simp [hf]

theorem stores_ok {B : Nat} (P : Program) (a : Addr) : ∀ (vs : List Value) (i : Nat) (w : World) (K : Hp → Prop), stores a vs i (absW B w) K →
    ∃ w', (storeCells a vs i).run P w = .ok () w' ∧ Bel B w w' ∧ K (absW B w')
  | [], i, w, K, hk => ⟨w, by simp [storeCells], Bel.refl B w, hk⟩
  | v :: vs, i, w, K, hk => by
    simp only [stores] at hk
    cases h1 : v.oneCell with
    | false => rw [h1] at hk; exact hk.elim
    | true =>
      rw [h1] at hk
      obtain ⟨w1, hr, hb, hK⟩ := stc_ok h1 hk P
      obtain ⟨w2, hr2, hb2, hK2⟩ := stores_ok P a vs (i + 1) w1 K hK
      exact ⟨w2, by simp [storeCells, hr, hr2], hb.trans hb2, hK2⟩

/-- Stores into a row of the program's own, one behind the other. -/
theorem setl_ok {B : Nat} (P : Program) (a : Addr) : ∀ (vs : List Value) (i : Nat) (w : World), (∀ v ∈ vs, v.oneCell = true) →
    (∀ j, j < vs.length → (absW B w).wr (a.add (i + j))) →
    ∃ w', (storeCells a vs i).run P w = .ok () w' ∧ Bel B w w' ∧ absW B w' = (absW B w).setl a vs i
  | [], i, w, _, _ => ⟨w, by simp [storeCells], Bel.refl B w, rfl⟩
  | v :: vs, i, w, h1, hw => by
    have hw0 := hw 0 (by simp)
    rw [Nat.add_zero] at hw0
    obtain ⟨w1, hr, hb, hK⟩ := stc_ok (K := fun h => h = (absW B w).set (a.add i) v) (h1 v (by simp)) ⟨hw0, rfl⟩ P
    obtain ⟨w2, hr2, hb2, hK2⟩ := setl_ok P a vs (i + 1) w1 (fun u hu => h1 u (by simp [hu])) (fun j hj => by
      have := hw (j + 1) (by simpa using hj)
      rw [hK]
      rw [show i + 1 + j = i + (j + 1) by omega]
      obtain ⟨hs, xs, hx, hl⟩ := this
      refine ⟨hs, ?_⟩
      simp only [Hp.set, Hp.upd]
      by_cases hbk : (a.add (i + (j + 1))).block = (a.add i).block
      · rw [if_pos hbk, ← hbk, hx]
        exact ⟨_, rfl, by simpa using hl⟩
      · rw [if_neg hbk]; exact ⟨xs, hx, hl⟩)
    exact ⟨w2, by simp [storeCells, hr, hr2], hb.trans hb2, by rw [hK2, hK]; rfl⟩

theorem seg_lies {h : Hp} {a : Option Addr} {m : Nat} {xs : List Value} (hs : h.seg a m = some xs) :
    xs.length = m ∧ (m = 0 ∨ ∃ b, a = some b) ∧ ∀ b, a = some b → LiesH h b xs := by
  unfold Hp.seg at hs
  by_cases hm : m = 0
  · rw [if_pos hm] at hs
    cases hs
    exact ⟨hm.symm, .inl hm, fun b _ i u hu => by simp at hu⟩
  · rw [if_neg hm] at hs
    cases a with
    | none => cases hs
    | some b =>
      simp only at hs
      by_cases hsp : b.spot.isSome = true
      · rw [if_pos hsp] at hs; cases hs
      · rw [if_neg hsp] at hs
        cases hr : h.row b.block with
        | none => simp [hr] at hs
        | some ys =>
          simp only [hr] at hs
          split at hs
          · rename_i hle
            cases hs
            refine ⟨by simp; omega, .inr ⟨b, rfl⟩, fun c hc i u hu => ?_⟩
            cases hc
            have hlt : i < m := by
              have := (List.getElem?_eq_some_iff.1 hu).1
              simp at this; omega
            have hy : ys[b.off + i]? = some u := by simpa [List.getElem?_take, hlt] using hu
            have hcell : ∀ (o : Nat), ({ block := b.block, off := o, spot := none } : Addr).spot = none → (∀ v, ys[o]? = some v → h.cell { block := b.block, off := o, spot := none } = some v) := by
              intro o _ v hv
              unfold Hp.row at hr
              unfold Hp.cell
              simp only [Option.isSome_none, Bool.false_eq_true, if_false]
              split at hr
              · rename_i zs hz; cases hr; exact hv
              · rename_i c e fr hz; cases hr; simpa using hv
              · cases hr
            have hb : b.add i = { block := b.block, off := b.off + i, spot := none } := by
              unfold Addr.add
              by_cases hi : i = 0
              · have : b.spot = none := by simpa using hsp
                subst hi
                cases b; simp_all
              · simp [hi]
            rw [hb]
            exact hcell _ rfl u hy
          · cases hs

theorem run_first {P : Program} {B : Nat} {w w1 : World} {x : Sl} {m size : Nat} {news : List Value} (hs : (absW B w).seg x.a (m * size) = some news) (hw : absW B w1 = absW B w) (n c : Nat) :
    (Builtin.firstCells size m (.slice x.a n c)).run P w1 = .ok news.toArray w1 := by
  obtain ⟨hl, h0, hc⟩ := seg_lies hs
  cases hx : x.a with
  | none =>
    have : m * size = 0 := by
      rcases h0 with h | ⟨b, hb⟩
      · exact h
      · rw [hx] at hb; cases hb
    have : news = [] := List.eq_nil_of_length_eq_zero (by omega)
    subst this
    simp [Builtin.firstCells]
  | some b =>
    have hL := hc b hx
    rw [← hw] at hL
    exact run_firstCells_some (P := P) w1 size m b n c news hl hL.abs

theorem zrow_range (z : List Value) (hz : 0 < z.length) : ∀ n, (List.range (n * z.length)).map (fun i => z.toArray[i % z.length]!) = zrow z n
  | 0 => by simp [zrow]
  | n + 1 => by
    have ih := zrow_range z hz n
    rw [Nat.add_mul, Nat.one_mul, List.range_add, List.map_append, ih]
    simp only [zrow, List.replicate_succ', List.flatten_append, List.flatten_cons, List.flatten_nil, List.append_nil]
    congr 1
    apply List.ext_getElem
    · simp
    · intro i h1 h2
      simp at h1
      simp [Nat.mod_eq_of_lt h1, h1]

theorem zeroCells_zrow (z : Array Value) (hz : 0 < z.size) (n : Nat) : (Builtin.zeroCells z n).toList = zrow z.toList n := by
  have := zrow_range z.toList (by simpa using hz) n
  simpa [Builtin.zeroCells] using this

theorem madeCells_zrow (z : Array Value) (hz : 0 < z.size) (n : Nat) : (madeCells z (n * z.size)).toList = zrow z.toList n := by
  have := zrow_range z.toList (by simpa using hz) n
  simpa [madeCells] using this

/-! ### append -/

theorem app_ok {P : Program} {B : Nat} {w : World} (hB : B ≤ w.heap.size) {t e ty : TypeId} {i : TypeInfo} {z : Value} (ht : P.underlying t = some (.slice e)) (hi : P.info? e = some i) (hz : i.zero = some z)
    (hsz : z.cells.toList.length = P.cellsOf e) (h1 : 1 ≤ P.cellsOf e) {s x : Sl} {K : Sl → Hp → Prop}
    (hk : app (P.cellsOf e) (P.bytesOf e) z.cells.toList s x (absW B w) K) :
    ∃ r w', (Builtin.append_ #[t, t] ty #[.slice s.a s.n s.c, .slice x.a x.n x.c]).run P w = .ok (.slice r.a r.n r.c) w' ∧ Bel B w w' ∧ K r (absW B w') := by
  obtain ⟨olds, news, hold, hnew, hone, hroom, hgrow⟩ := hk
  have hsize : i.size = P.cellsOf e := by simp [Program.cellsOf, hi]
  have hbytes : i.bytes = P.bytesOf e := by simp [Program.bytesOf, hi]
  have hzs : z.cells.size = P.cellsOf e := by simpa using hsz
  have hz0 : 0 < z.cells.size := by omega
  obtain ⟨nl, _, _⟩ := seg_lies hnew
  by_cases hle : s.n + x.n ≤ s.c
  · obtain ⟨hcond, hK⟩ := hroom hle
    have hf := run_first (P := P) (w := w) (w1 := w) hnew rfl x.n x.c
    cases hsa : s.a with
    | none =>
      rw [hsa] at hK
      refine ⟨⟨none, s.n + x.n, s.c⟩, w, ?_, Bel.refl B w, by simpa [hsa] using hK⟩
      simp [Builtin.append_, run_underlying ht, sizeOf, typeInfo, hi, hsize, Builtin.lenOf, hle, hf]
    | some a =>
      rw [hsa] at hK
      obtain ⟨hsp, hblk⟩ := hcond a hsa
      have hwr : ∀ j, j < news.length → (absW B w).wr ((a.add (s.n * P.cellsOf e)).add (0 + j)) := by
        intro j hj
        have hpos : 0 < x.n * P.cellsOf e := by omega
        obtain ⟨xs, hx, hl⟩ := hblk hpos
        rw [Addr.add_add, Nat.zero_add]
        have hadd : a.add (s.n * P.cellsOf e + j) = { block := a.block, off := a.off + (s.n * P.cellsOf e + j), spot := none } := by
          unfold Addr.add
          by_cases h0 : s.n * P.cellsOf e + j = 0
          · rw [if_pos h0, h0]; cases a; simp_all
          · rw [if_neg h0]
        rw [hadd]
        refine ⟨rfl, xs, hx, ?_⟩
        simp only
        rw [Nat.add_mul] at hl
        omega
      obtain ⟨w', hr, hb, habs⟩ := setl_ok P (a.add (s.n * P.cellsOf e)) news 0 w hone hwr
      refine ⟨⟨some a, s.n + x.n, s.c⟩, w', ?_, hb, by rw [habs]; simpa using hK⟩
      simp [Builtin.append_, run_underlying ht, sizeOf, typeInfo, hi, hsize, Builtin.lenOf, hle, hf, hr]
  · obtain ⟨hby, h63, hK⟩ := hgrow (by omega)
    have hnext := growslice_fits (need := s.n + x.n) (old := s.c) (bytes := P.bytesOf e) (by omega) hby
    have hf := run_first (P := P) (w := w) (w1 := w.drew) hnew rfl x.n x.c
    have hfo := run_first (P := P) (w := w) (w1 := w.drew) hold rfl s.n s.c
    have hn : ¬ (s.n + x.n ≤ s.c) := hle
    have h63' : ¬ (9223372036854775807 < ((s.n : Int) + (x.n : Int))) := by omega
    have h48' : ¬ (281474976710656 < Builtin.nextslicecap (s.n + x.n) s.c * P.bytesOf e) := by omega
    have hcap := grownCap_ge w (s.n + x.n) s.c e
    have hKc := hK _ hcap
    refine ⟨⟨some ⟨w.heap.size, 0, none⟩, s.n + x.n, grownCap w (s.n + x.n) s.c e⟩,
      { w.drew with heap := w.drew.heap.push (.cells (olds.toArray ++ news.toArray ++ Builtin.zeroCells z.cells (grownCap w (s.n + x.n) s.c e - (s.n + x.n))) e) }, ?_, ?_, ?_⟩
    · simp [Builtin.append_, run_underlying ht, sizeOf, typeInfo, zeroValue, hi, hz, hsize, hbytes, Builtin.lenOf, hn, h63', h48', Question.forced, hf, hfo, newRow, grownCap]
      generalize Builtin.zeroCells z.cells _ = Z
      have hZ : olds.toArray ++ (news.toArray ++ Z) = (olds ++ news).toArray ++ Z := by rw [← Array.append_assoc]; simp
      rw [hZ]
      rfl
    · exact (Bel.refl B w).drew.trans (below_push (w := w.drew) hB _)
    · rw [push_absW (w := w.drew) hB]
      have hZ : (olds.toArray ++ news.toArray ++ Builtin.zeroCells z.cells (grownCap w (s.n + x.n) s.c e - (s.n + x.n))).toList = olds ++ news ++ zrow z.cells.toList (grownCap w (s.n + x.n) s.c e - (s.n + x.n)) := by
        simp [zeroCells_zrow _ hz0]
      rw [hZ]
      exact hKc

theorem clr_ok {P : Program} {B : Nat} {w : World} {ats : Array TypeId} {t e ty : TypeId} {i : TypeInfo} {z : Value} (ht : P.underlying t = some (.slice e)) (hi : P.info? e = some i) (hz : i.zero = some z)
    (hsz : z.cells.toList.length = P.cellsOf e) (h1 : 1 ≤ P.cellsOf e) (ho : ∀ v ∈ z.cells.toList, v.oneCell = true) (hat : ats[0]? = some t) {s : Sl} {K : Hp → Prop} (hk : clr (P.cellsOf e) z.cells.toList s (absW B w) K) :
    ∃ w', (Builtin.clear_ ats ty #[.slice s.a s.n s.c]).run P w = .ok (.tuple #[]) w' ∧ Bel B w w' ∧ K (absW B w') := by
  obtain ⟨h0, h2⟩ := hk
  have none_ : (s.a = none ∨ s.n = 0) → (Builtin.clear_ ats ty #[.slice s.a s.n s.c]).run P w = .ok (.tuple #[]) w := by
    rintro (h | h)
    · simp [Builtin.clear_, hat, run_underlying ht, h]
    · rw [h]
      cases ha : s.a <;> simp [Builtin.clear_, hat, run_underlying ht]
  cases ha : s.a with
  | none => exact ⟨w, by rw [← ha]; exact none_ (.inl ha), Bel.refl B w, h0 (.inl ha)⟩
  | some a =>
    by_cases hn : s.n = 0
    · exact ⟨w, by rw [← ha]; exact none_ (.inr hn), Bel.refl B w, h0 (.inr hn)⟩
    · obtain ⟨hs, ⟨xs, hx, hl⟩, hK⟩ := h2 a ha (by omega)
      have zl : (zrow z.cells.toList s.n).length = s.n * P.cellsOf e := by
        have : ∀ n, (zrow z.cells.toList n).length = n * P.cellsOf e := fun n => by
          unfold zrow
          induction n with
          | zero => simp
          | succ n ih => rw [List.replicate_succ, List.flatten_cons, List.length_append, ih, hsz, Nat.add_mul]; omega
        exact this _
      have hone : ∀ v ∈ zrow z.cells.toList s.n, v.oneCell = true := by
        intro v hv
        unfold zrow at hv
        rw [List.mem_flatten] at hv
        obtain ⟨l, hl, hv⟩ := hv
        rw [List.mem_replicate] at hl
        rw [hl.2] at hv
        exact ho v hv
      obtain ⟨w', hr, hb, habs⟩ := setl_ok P a (zrow z.cells.toList s.n) 0 w hone fun j hj => by
        obtain ⟨b, o, sp⟩ := a
        simp only at hs; subst hs
        have hadd : Addr.add ⟨b, o, none⟩ (0 + j) = ⟨b, o + j, none⟩ := by
          unfold Addr.add
          split <;> simp_all
        rw [hadd]
        refine ⟨rfl, xs, hx, ?_⟩
        rw [zl] at hj
        simp only at hl ⊢
        omega
      refine ⟨w', ?_, hb, by rw [habs]; exact hK⟩
      have hzc : (Builtin.zeroCells z.cells s.n).toList = zrow z.cells.toList s.n := zeroCells_zrow z.cells (by rw [← Array.length_toList]; omega) s.n
      cases hsn : s.n with
      | zero => exact absurd hsn hn
      | succ m =>
        rw [← hsn]
        simp [Builtin.clear_, hat, run_underlying ht, zeroValue, typeInfo, hi, hz, hzc, hr]

theorem cpy_ok {P : Program} {B : Nat} {w : World} {ats : Array TypeId} {t e ty : TypeId} {i : TypeInfo} (ht : P.underlying t = some (.slice e)) (hi : P.info? e = some i)
    (h1 : 1 ≤ P.cellsOf e) (hat : ats[0]? = some t) {d s : Sl} {K : Int → Hp → Prop} (hk : cpy (P.cellsOf e) d s (absW B w) K) :
    ∃ n w', (Builtin.copy_ ats ty #[.slice d.a d.n d.c, .slice s.a s.n s.c]).run P w = .ok (.int .i64 n) w' ∧ Bel B w w' ∧ K n (absW B w') := by
  obtain ⟨cs, hseg, hone, h0, h2⟩ := hk
  have hsize : i.size = P.cellsOf e := by simp [Program.cellsOf, hi]
  have hf := run_first (P := P) (w := w) (w1 := w) hseg rfl s.n s.c
  obtain ⟨nl, _, _⟩ := seg_lies hseg
  cases ha : d.a with
  | none =>
    refine ⟨_, w, ?_, Bel.refl B w, h0 ha⟩
    simp [Builtin.copy_, hat, run_underlying ht, sizeOf, typeInfo, hi, hsize, Builtin.lenOf, hf, goInt]
  | some a =>
    obtain ⟨hs, hxs, hK⟩ := h2 a ha
    obtain ⟨w', hr, hb, habs⟩ := setl_ok P a cs 0 w hone fun j hj => by
      obtain ⟨xs, hx, hl⟩ := hxs (by omega)
      obtain ⟨b, o, sp⟩ := a
      simp only at hs; subst hs
      have hadd : Addr.add ⟨b, o, none⟩ (0 + j) = ⟨b, o + j, none⟩ := by
        unfold Addr.add
        split <;> simp_all
      rw [hadd]
      refine ⟨rfl, xs, hx, ?_⟩
      simp only at hl ⊢
      omega
    refine ⟨_, w', ?_, hb, by rw [habs]; exact hK⟩
    simp [Builtin.copy_, hat, run_underlying ht, sizeOf, typeInfo, hi, hsize, Builtin.lenOf, hf, hr, goInt]

end Go.Hx
