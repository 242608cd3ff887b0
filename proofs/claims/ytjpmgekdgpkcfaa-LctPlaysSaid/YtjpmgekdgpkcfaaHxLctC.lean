/- Link-cut forests over the abstract heap: rotate. No condition. -/
import Derived.Test.YtjpmgekdgpkcfaaHxLctB
namespace Go.Hx
set_option linter.unusedSimpArgs false
set_option linter.unusedVariables false

section
variable {h : Hp} {a b n : Nat} {N : NN} {tr : Int}

def rI (s : Bool) : Int := if s = true then 1 else 0
theorem rI_bnd (s : Bool) : 0 ≤ rI s ∧ rI s < 2 := by cases s <;> decide
theorem rI_not (s : Bool) : w64 (1 - rI s) = rI (!s) := by cases s <;> decide
theorem rI_off (s : Bool) (v : Nat) : v * 9 + 1 + Int.toNat (rI s) * 1 = v * 9 + (if s = true then 2 else 1) := by cases s <;> rfl
theorem rI_off0 (s : Bool) (v : Nat) : v * 9 + 1 + Int.toNat (rI s) * 1 + 0 = v * 9 + (if s = true then 2 else 1) := by cases s <;> rfl
theorem rI_lt (s : Bool) : (if s = true then 2 else 1) < 9 := by cases s <;> decide

theorem FS.stK (d : FS h a b n N tr) {v off : Nat} (hv : v < n) (s : Bool) (x : Int) (ho : off = v * 9 + (if s = true then 2 else 1)) {K : Hp → Prop} (hK : ∀ h', FS h' a b n (setK N v s x) tr → FrB a b h h' → h'.size = h.size → K h') : stc h ⟨b, off, none⟩ (.int .i64 x) K :=
  d.st hv (if s = true then 2 else 1) (rI_lt s) ho (setK N v s x) (fun u hu => setK_out hu) (by rw [setK_at]; cases s <;> rfl) hK
theorem FS.stU (d : FS h a b n N tr) {v off : Nat} (hv : v < n) (x : Int) (ho : off = v * 9) {K : Hp → Prop} (hK : ∀ h', FS h' a b n (setU N v x) tr → FrB a b h h' → h'.size = h.size → K h') : stc h ⟨b, off, none⟩ (.int .i64 x) K :=
  d.st hv 0 (by omega) (by omega) (setU N v x) (fun u hu => setU_out hu) (by rw [setU_at]; rfl) hK
theorem FS.ldK (d : FS h a b n N tr) {v off : Nat} (hv : v < n) (s : Bool) (ho : off = v * 9 + (if s = true then 2 else 1)) {K : Int → Prop} (hK : K (if s = true then (N v).k1 else (N v).k0)) : ldI .i64 h ⟨b, off, none⟩ K :=
  ldI_of (by rw [d.cell hv _ (rI_lt s) ho]; cases s <;> rfl) hK
theorem FS.ldU (d : FS h a b n N tr) {v off : Nat} (hv : v < n) (ho : off = v * 9) {K : Int → Prop} (hK : K (N v).up) : ldI .i64 h ⟨b, off, none⟩ K :=
  ldI_of (by rw [d.cell hv 0 (by omega) (by omega)]; rfl) hK

/-- What a rotation asks of the parent's parent. -/
def GG (n : Nat) (N : NN) (v p : Nat) : Option (Nat × Bool) → Prop
  | none => topP N p ∧ inI n (N p).up
  | some (g, e) => (N p).up = g ∧ g < n ∧ ¬ topP N p ∧ (e = true ↔ (N g).k1 = p) ∧ g ≠ v ∧ g ≠ p

theorem rotate_spec (d : FS h a b n N tr) {v p : Nat} (hv : v < n) (hp : p < n) (hvp : v ≠ p) (hup : (N v).up = p) (s : Bool) (hs : s = true ↔ (N p).k1 = v) (g : Option (Nat × Bool)) (hg : GG n N v p g) (hk : inI n (rotK N v s)) (hkv : rotK N v s ≠ v) (hkp : rotK N v s ≠ p)
    (po1 : PO n (rot6 N v p s g) p) (po2 : PO n (pullN (rot6 N v p s g) p) v) (K : Hp → Prop) (hK : ∀ h', FS h' a b n (rotN N v p s g) tr → FrB a b h h' → h'.size = h.size → K h') : g_lct_Forest_rotate (some ⟨a, 0, none⟩) (v : Int) h K := by
  have hgu : inI n (N p).up := by
    cases g with
    | none => exact hg.2
    | some x => obtain ⟨g, e⟩ := x; exact .inr ⟨g, hg.1, hg.2.1⟩
  have r1v : rot1 N v p s g v = N v := by
    cases g with
    | none => rfl
    | some x => obtain ⟨g, e⟩ := x; exact setK_out (Ne.symm hg.2.2.2.2.1)
  have r1p : rot1 N v p s g p = N p := by
    cases g with
    | none => rfl
    | some x => obtain ⟨g, e⟩ := x; exact setK_out (Ne.symm hg.2.2.2.2.2)
  have rk : rotK (rot1 N v p s g) v s = rotK N v s := by unfold rotK; rw [r1v]
  unfold g_lct_Forest_rotate
  refine d.nd hv (K := fun a3 => ldI .i64 h ((a3.add (Int.toNat (v : Int) * 9)).add 0) _) ?_
  simp only [add_mk, Nat.zero_add, Int.toNat_natCast, Nat.add_zero]
  refine d.ldU hv rfl ?_
  rw [hup]
  refine d.nd hp (K := fun a7 => ldI .i64 h ((a7.add (Int.toNat (p : Int) * 9)).add 0) _) ?_
  simp only [add_mk, Nat.zero_add, Int.toNat_natCast, Nat.add_zero]
  refine d.ldU hp rfl (side_spec d hv hup hp _ ?_)
  have er : (if (N p).k1 = v then 1 else 0 : Int) = rI s := by
    unfold rI
    by_cases q : (N p).k1 = v
    · rw [if_pos q, if_pos (hs.2 q)]
    · rw [if_neg q, if_neg fun w => q (hs.1 w)]
  rw [er]
  refine jn_of (fun _ h12 => FS h12 a b n (rot1 N v p s g) tr ∧ FrB a b h h12 ∧ h12.size = h.size) ?_ fun K13 hK13 => ?_
  case refine_2 =>
    refine top_spec d hp hgu _ fun x hx => cnd_of (fun c => ?_) fun c => ?_
    · cases g with
      | none => rw [hx.2 hg.1] at c; cases c
      | some x =>
        obtain ⟨g, e⟩ := x
        obtain ⟨g1, g2, g3, g4, g5, g6⟩ := hg
        rw [g1]
        obtain ⟨cc, hcc⟩ := d.c1
        refine nn_of (ldS_of (by rw [add_mk]; exact hcc) (ix_of (by omega) (by simp only; omega) ?_))
        refine side_spec d hp g1 g2 _ ?_
        have er2 : (if (N g).k1 = p then 1 else 0 : Int) = rI e := by
          unfold rI
          by_cases q : (N g).k1 = p
          · rw [if_pos q, if_pos (g4.2 q)]
          · rw [if_neg q, if_neg fun w => q (g4.1 w)]
        rw [er2]
        refine ⟨?_, (rI_bnd e).1, (rI_bnd e).2, ?_⟩
        · simp only [add_mk, Nat.zero_add, Nat.add_zero]; exact hcc
        simp only [add_mk, Nat.zero_add, Int.toNat_natCast]
        exact d.stK g2 e (v : Int) (rI_off0 e g) fun h' d' f' z' => hK13 _ _ ⟨d', f', z'⟩
    · cases g with
      | none => exact hK13 _ _ ⟨d, FrB.refl _ _ _, rfl⟩
      | some x =>
        obtain ⟨g, e⟩ := x
        exact absurd (hx.1 (by simpa using c)) hg.2.2.1
  rintro ⟨⟩ h12 ⟨d12, f12, z12⟩
  simp only [rI_not]
  refine d12.nd hv (K := fun a16 => bnd (rI !s) 2 <| ldI .i64 h12 (((a16.add (Int.toNat (v : Int) * 9)).add 1).add (Int.toNat (rI !s) * 1)) _) ⟨(rI_bnd _).1, (rI_bnd _).2, ?_⟩
  simp only [add_mk, Nat.zero_add, Int.toNat_natCast]
  refine d12.ldK hv (!s) (rI_off (!s) v) ?_
  have ek : (if (!s) = true then (rot1 N v p s g v).k1 else (rot1 N v p s g v).k0) = rotK (rot1 N v p s g) v s := by unfold rotK; cases s <;> rfl
  rw [ek]
  obtain ⟨k, hkk⟩ : ∃ k, k = rotK (rot1 N v p s g) v s := ⟨_, rfl⟩
  have hk' : inI n k := by rw [hkk, rk]; exact hk
  have hkv' : k ≠ v := by rw [hkk, rk]; exact hkv
  have hkp' : k ≠ p := by rw [hkk, rk]; exact hkp
  rw [← hkk]
  refine d12.nd hp (K := fun a20 => bnd (rI s) 2 <| stc h12 ((((a20.add (Int.toNat (p : Int) * 9)).add 1).add (Int.toNat (rI s) * 1)).add 0) (.int .i64 k) _) ⟨(rI_bnd _).1, (rI_bnd _).2, ?_⟩
  simp only [add_mk, Nat.zero_add, Int.toNat_natCast]
  refine d12.stK hp s k (rI_off0 s p) fun h21 d21 f21 z21 => ?_
  refine jn_of (fun _ h23 => FS h23 a b n (if k = -1 then setK (rot1 N v p s g) p s k else setU (setK (rot1 N v p s g) p s k) k.toNat (p : Int)) tr ∧ FrB a b h h23 ∧ h23.size = h.size) ?_ fun K24 hK24 => ?_
  case refine_2 =>
    refine cnd_of (fun c => ?_) fun c => ?_
    · simp only [bne_iff_ne] at c
      rcases hk' with q | ⟨w, rfl, hwn⟩
      · exact absurd q c
      · refine d21.nd hwn (K := fun a41 => stc h21 (((a41.add (Int.toNat (w : Int) * 9)).add 0).add 0) (.int .i64 (p : Int)) _) ?_
        simp only [add_mk, Nat.zero_add, Int.toNat_natCast, Nat.add_zero]
        refine d21.stU hwn (p : Int) rfl fun h' d' f' z' => hK24 _ _ ⟨?_, (f12.trans f21).trans f', by omega⟩
        rw [if_neg (by omega), Int.toNat_natCast]; exact d'
    · simp only [bne_eq_false_iff_eq] at c
      exact hK24 _ _ ⟨by rw [if_pos c]; exact d21, f12.trans f21, by omega⟩
  rintro ⟨⟩ h23 ⟨d23, f23, z23⟩
  refine d23.nd hv (K := fun a27 => bnd (rI !s) 2 <| stc h23 ((((a27.add (Int.toNat (v : Int) * 9)).add 1).add (Int.toNat (rI !s) * 1)).add 0) (.int .i64 (p : Int)) _) ⟨(rI_bnd _).1, (rI_bnd _).2, ?_⟩
  simp only [add_mk, Nat.zero_add, Int.toNat_natCast]
  refine d23.stK hv (!s) (p : Int) (rI_off0 (!s) v) fun h28 d28 f28 z28 => ?_
  refine d28.nd hv (K := fun a31 => stc h28 (((a31.add (Int.toNat (v : Int) * 9)).add 0).add 0) (.int .i64 (N p).up) _) ?_
  simp only [add_mk, Nat.zero_add, Int.toNat_natCast, Nat.add_zero]
  refine d28.stU hv (N p).up rfl fun h32 d32 f32 z32 => ?_
  refine d32.nd hp (K := fun a35 => stc h32 (((a35.add (Int.toNat (p : Int) * 9)).add 0).add 0) (.int .i64 (v : Int)) _) ?_
  simp only [add_mk, Nat.zero_add, Int.toNat_natCast, Nat.add_zero]
  refine d32.stU hp (v : Int) rfl fun h36 d36 f36 z36 => ?_
  have d36' : FS h36 a b n (rot6 N v p s g) tr := by
    have : rot6 N v p s g = setU (setU (setK (if k = -1 then setK (rot1 N v p s g) p s k else setU (setK (rot1 N v p s g) p s k) k.toNat (p : Int)) v (!s) (p : Int)) v (N p).up) p (v : Int) := by
      unfold rot6; simp only [hkk]
    rw [this]; exact d36
  have F36 := ((f23.trans f28).trans f32).trans f36
  refine pull_spec d36' hp po1 _ fun h37 d37 f37 z37 => pull_spec d37 hv po2 _ fun h38 d38 f38 z38 => hK h38 d38 ((F36.trans f37).trans f38) (by omega)
end

end Go.Hx
