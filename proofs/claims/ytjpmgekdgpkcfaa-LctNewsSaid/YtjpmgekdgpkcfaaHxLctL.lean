/- Link-cut forests: an edge more. Plain; no program. No condition. -/
import Derived.Test.YtjpmgekdgpkcfaaHxLctI
import Derived.Test.YtjpmgekdgpkcfaaHxLctD
namespace Go.Hx
set_option linter.unusedSimpArgs false
set_option linter.unusedVariables false

/-- An ancestor, or the vertex itself. -/
inductive Anc (pa : Nat → Int) : Nat → Nat → Prop
  | refl (a : Nat) : Anc pa a a
  | up {a b c : Nat} : pa a = (b : Int) → Anc pa b c → Anc pa a c

theorem chn_up {pa : Nat → Int} {p : Int} {xs : List Nat} (c : chn pa p xs) {w z : Nat} (hw : w ∈ xs) (h : pa w = (z : Int)) : p = z ∨ z ∈ xs := by
  induction xs generalizing p with
  | nil => cases hw
  | cons x xs ih =>
    rcases List.mem_cons.1 hw with rfl | hw
    · exact .inl (c.1.symm.trans h)
    · rcases ih c.2 hw with q | q
      · right; simp; left; omega
      · exact .inr (List.mem_cons_of_mem _ q)

theorem Anc_in {pa : Nat → Int} {xs : List Nat} (c : chn pa (-1) xs) {y x : Nat} (h : Anc pa y x) (hy : y ∈ xs) : x ∈ xs := by
  induction h with
  | refl => exact hy
  | up e _ ih =>
    rcases chn_up c hy e with q | q
    · omega
    · exact ih q

def linkP (pa : Nat → Int) (x y : Nat) : Nat → Int := fun w => if w = x then (y : Int) else pa w
def linkN (N : NN) (x y : Nat) : NN := fun w => if w = y then { N y with hang := w64 ((N y).hang + (N x).all) } else if w = x then { N x with up := (y : Int) } else N w

theorem LF.link {n : Nat} {N : NN} {pa : Nat → Int} {x y : Nat} {r l : Tr} {G : List (Tr × Int)} (d : LF n N pa ((.nd .nil x r, -1) :: (.nd l y .nil, -1) :: G)) (ry : (N y).rev = false) (hn : n ≤ 65536) :
    LF n (pullN (linkN N x y) y) (linkP pa x y) ((.nd .nil x r, (y : Int)) :: (.nd l y .nil, -1) :: G) ∧ PO n (linkN N x y) y ∧ (∀ w, (pullN (linkN N x y) y w).key = (N w).key) := by
  have hX : (Tr.nd .nil x r, (-1 : Int)) ∈ (Tr.nd .nil x r, (-1 : Int)) :: (Tr.nd l y .nil, -1) :: G := by simp
  have hY : (Tr.nd l y .nil, (-1 : Int)) ∈ (Tr.nd .nil x r, (-1 : Int)) :: (Tr.nd l y .nil, -1) :: G := by simp
  have hG : ∀ f, f ∈ G → f ∈ (Tr.nd .nil x r, (-1 : Int)) :: (Tr.nd l y .nil, -1) :: G := fun f hf => by simp [hf]
  have xX : x ∈ (Tr.nd .nil x r).seq := by simp [Tr.seq]
  have yY : y ∈ (Tr.nd l y .nil).seq := by simp [Tr.seq]
  have dXY : ∀ w, w ∈ (Tr.nd .nil x r).seq → w ∉ (Tr.nd l y .nil).seq := fun w h1 h2 => d.disj (g := (.nd l y .nil, -1)) (by simp) w h1 h2
  have dXG : ∀ f, f ∈ G → ∀ w, w ∈ (Tr.nd .nil x r).seq → w ∉ f.1.seq := fun f hf w h1 h2 => d.disj (g := f) (by simp [hf]) w h1 h2
  have d2 := d.perm (List.Perm.swap _ _ _)
  have dYG : ∀ f, f ∈ G → ∀ w, w ∈ (Tr.nd l y .nil).seq → w ∉ f.1.seq := fun f hf w h1 h2 => d2.disj (g := f) (by simp [hf]) w h1 h2
  have hxy : x ≠ y := fun e => dXY x xX (e ▸ yY)
  have nX := (d.tt).nd
  have nY := (d2.tt).nd
  simp only [Tr.seq, List.nil_append] at nX nY
  rw [List.nodup_cons] at nX
  rw [List.nodup_append] at nY
  have yl : y ∉ l.seq := fun q => nY.2.2 y q y (by simp) rfl
  have yn : y < n := (d.cov y).2 ⟨_, hY, yY⟩
  obtain ⟨N1, h1⟩ : ∃ N1, N1 = linkN N x y := ⟨_, rfl⟩
  rw [← h1]
  have n1y : N1 y = { N y with hang := w64 ((N y).hang + (N x).all) } := by rw [h1]; unfold linkN; rw [if_pos rfl]
  have n1x : N1 x = { N x with up := (y : Int) } := by rw [h1]; unfold linkN; rw [if_neg hxy, if_pos rfl]
  have n1o : ∀ w, w ≠ x → w ≠ y → N1 w = N w := fun w hx hy => by rw [h1]; unfold linkN; rw [if_neg hy, if_neg hx]
  have so : ∀ w, w ≠ y → sag N (pullN N1 y) w := fun w hw => by
    rw [sag, pullN_out hw]
    by_cases e : w = x
    · rw [e, n1x]; exact ⟨rfl, rfl, rfl, rfl, rfl⟩
    · rw [n1o w e hw]; exact ⟨rfl, rfl, rfl, rfl, rfl⟩
  have so1 : ∀ w, w ≠ y → sag N N1 w := fun w hw => by
    have := so w hw
    rwa [sag, pullN_out hw] at this
  have sm : ∀ w, w ≠ x → sam N (pullN N1 y) w := fun w hw => by
    obtain ⟨a1, a2, a3, a4⟩ := pullN_sam N1 y w
    by_cases e : w = y
    · subst e; rw [sam, a1, a2, a3, a4, n1y]; exact ⟨rfl, rfl, rfl, rfl⟩
    · rw [sam, a1, a2, a3, a4, n1o w hw e]; exact ⟨rfl, rfl, rfl, rfl⟩
  have smx : (pullN N1 y x).up = y ∧ (pullN N1 y x).k0 = (N x).k0 ∧ (pullN N1 y x).k1 = (N x).k1 ∧ (pullN N1 y x).rev = (N x).rev := by
    rw [pullN_out hxy, n1x]; exact ⟨rfl, rfl, rfl, rfl⟩
  obtain ⟨x1, x2, x3, x4⟩ := d.rs _ hX
  obtain ⟨y1, y2, y3, y4⟩ := d.rs _ hY
  simp only [ry, Bool.xor_false, Bool.false_eq_true, if_false] at y2 y3 y4
  obtain ⟨gy1, gy2, gy3⟩ := d.ag _ hY
  have lx : x ∉ l.seq := fun q => dXY x xX (by simp [Tr.seq, q])
  have gl1 : AG N1 l := gy2.congr fun w hw => so1 w fun e => yl (e ▸ hw)
  have po : PO n N1 y := PO.of (l := l) (r := .nil) (by rw [n1y]; exact y2.1) (by rw [n1y]; exact y2.2) gl1 trivial (fun w hw => by
    rcases hw with hw | hw
    · exact (d.cov w).2 ⟨_, hY, by simp [Tr.seq, hw]⟩
    · cases hw) ⟨yl, fun q => by cases q⟩
  have len := nodup_len n (l.seq ++ y :: (Tr.nil).seq) (by simpa [Tr.seq] using d2.tt.nd) fun w hw => (d.cov w).2 ⟨_, hY, hw⟩
  have gy : agg (pullN N1 y) y (l.seq ++ y :: (Tr.nil).seq) := pull_agg (by rw [n1y]; exact y2.1) (by rw [n1y]; exact y2.2) gl1 trivial (by omega)
  refine ⟨⟨fun f hf => ?_, fun f hf => ?_, fun f hf => ?_, fun f hf => ?_, ?_, fun w => ?_, fun w hw => ?_, fun f hf => ?_, ?_⟩, po, fun w => ?_⟩
  · rcases List.mem_cons.1 hf with rfl | hf
    · refine ⟨smx.1, by rw [smx.2.1, smx.2.2.1, smx.2.2.2]; exact x2, trivial, ?_⟩
      rw [smx.2.2.2]
      exact x4.congr fun w hw => sm w fun e => nX.1 (e ▸ hw)
    · rcases List.mem_cons.1 hf with rfl | hf
      · exact (d.rs _ hY).congr fun w hw => sm w fun e => dXY x xX (e ▸ hw)
      · exact (d.rs f (hG f hf)).congr fun w hw => sm w fun e => dXG f hf x xX (e ▸ hw)
  · rcases List.mem_cons.1 hf with rfl | hf
    · exact (d.ag _ hX).congr fun w hw => so w fun e => dXY w hw (e ▸ yY)
    · rcases List.mem_cons.1 hf with rfl | hf
      · exact ⟨gy, gy2.congr fun w hw => so w fun e => yl (e ▸ hw), trivial⟩
      · exact (d.ag f (hG f hf)).congr fun w hw => so w fun e => dYG f hf y yY (e ▸ hw)
  · rcases List.mem_cons.1 hf with rfl | hf
    · exact fun q => by cases q
    · exact d.ne f (List.mem_cons_of_mem _ hf)
  · rcases List.mem_cons.1 hf with rfl | hf
    · exact .inr ⟨y, rfl, yn, fun q => dXY y q yY⟩
    · exact d.pp f (List.mem_cons_of_mem _ hf)
  · exact d.nd
  · refine (d.cov w).trans ⟨fun ⟨f, hf, hu⟩ => ?_, fun ⟨f, hf, hu⟩ => ?_⟩
    · rcases List.mem_cons.1 hf with rfl | hf
      · exact ⟨_, List.mem_cons_self .., hu⟩
      · exact ⟨f, List.mem_cons_of_mem _ hf, hu⟩
    · rcases List.mem_cons.1 hf with rfl | hf
      · exact ⟨_, List.mem_cons_self .., hu⟩
      · exact ⟨f, List.mem_cons_of_mem _ hf, hu⟩
  · have h0 := d.hg w hw
    have hGs : hsum (pullN N1 y) G w = hsum N G w := hsum_congr fun f hf => by
      have := (LF.rt_in (d.ne f (hG f hf))).1
      exact (so _ fun e => dYG f hf y yY (e ▸ this)).2.2.2.2
    rw [hsum_cons, hsum_cons] at h0 ⊢
    simp only [Tr.rt, Int.toNat_natCast] at h0 ⊢
    rw [if_neg (show ¬ (-1 : Int) = (w : Int) by omega), if_neg (show ¬ (-1 : Int) = (w : Int) by omega)] at h0
    rw [if_neg (show ¬ (-1 : Int) = (w : Int) by omega), hGs]
    by_cases e : w = y
    · subst e
      rw [if_pos rfl, (pullN_kh N1 w w).2, n1y, (so x hxy).2.2.2.2]
      simp only
      rw [h0]
      simp only [w64, IntKind.wrap_i64]
      omega
    · rw [if_neg (show ¬ ((y : Nat) : Int) = (w : Int) by omega), (so w e).2.2.2.1]
      exact h0
  · rcases List.mem_cons.1 hf with rfl | hf
    · have c := d.pc _ hX
      refine ⟨by unfold linkP; rw [if_pos rfl], ?_⟩
      exact chn_congr (fun w hw => by unfold linkP; rw [if_neg (show ¬ w = x from fun e => nX.1 (e ▸ hw))]) c.2
    · have hx : x ∉ f.1.seq := by
        rcases List.mem_cons.1 hf with rfl | hf
        · exact dXY x xX
        · exact dXG f hf x xX
      exact chn_congr (fun w hw => by unfold linkP; rw [if_neg (show ¬ w = x from fun e => hx (e ▸ hw))]) (d.pc f (List.mem_cons_of_mem _ hf))
  · obtain ⟨dep, hd⟩ := d.dp
    have nay : ¬ Anc pa y x := fun q => dXY x xX (Anc_in (d.pc _ hY) q yY)
    refine ⟨fun w => @ite _ (Anc pa w x) (Classical.propDecidable _) (dep w + dep y + 1) (dep w), fun w z e => ?_⟩
    unfold linkP at e
    by_cases q : w = x
    · subst q
      rw [if_pos rfl] at e
      obtain rfl : y = z := by omega
      simp only [if_neg nay, if_pos (Anc.refl w)]
      omega
    · rw [if_neg q] at e
      have h1 := hd w z e
      by_cases g : Anc pa z x
      · have g' : Anc pa w x := .up e g
        simp only [if_pos g, if_pos g']; omega
      · have g' : ¬ Anc pa w x := fun k => by
          cases k with
          | refl => exact q rfl
          | up e2 k2 =>
            rw [e] at e2
            have : z = _ := Int.ofNat.inj e2
            subst this
            exact g k2
        simp only [if_neg g, if_neg g']; exact h1
  · by_cases e : w = y
    · subst e; rw [(pullN_kh N1 w w).1, n1y]
    · exact (so w e).1

end Go.Hx
