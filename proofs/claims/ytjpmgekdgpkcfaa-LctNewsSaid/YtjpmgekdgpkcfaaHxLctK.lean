/- Link-cut forests: New. No condition. -/
import Derived.Test.YtjpmgekdgpkcfaaHxLctJ
namespace Go.Hx
set_option linter.unusedSimpArgs false
set_option linter.unusedVariables false

def zNd : Nd := ⟨0, 0, 0, false, 0, 0, 0, 0, 0⟩
def iNd (v : Nat) : Nd := ⟨-1, -1, -1, false, 0, v, 1, 0, 1⟩
def oneF (n : Nat) : List (Tr × Int) := (List.range n).map fun v => (.nd .nil v .nil, (-1 : Int))

theorem LF.start {n : Nat} {N : NN} (h : ∀ v, v < n → N v = iNd v) : LF n N (fun _ => -1) (oneF n) := by
  have mem : ∀ f, f ∈ oneF n → ∃ v, v < n ∧ f = (.nd .nil v .nil, (-1 : Int)) := fun f hf => by
    simp only [oneF, List.mem_map, List.mem_range] at hf
    obtain ⟨v, hv, rfl⟩ := hf
    exact ⟨v, hv, rfl⟩
  refine ⟨fun f hf => ?_, fun f hf => ?_, fun f hf => ?_, fun f hf => ?_, ?_, fun u => ?_, fun x hx => ?_, fun f hf => ?_, ⟨fun _ => 0, fun x y e => by omega⟩⟩
  · obtain ⟨v, hv, rfl⟩ := mem f hf
    refine ⟨by rw [h v hv]; rfl, ?_, trivial, trivial⟩
    rw [h v hv]; simp [iNd, Tr.rt]
  · obtain ⟨v, hv, rfl⟩ := mem f hf
    refine ⟨?_, trivial, trivial⟩
    unfold agg
    rw [h v hv]
    refine ⟨⟨v, by simp [Tr.seq], rfl, fun u hu => ?_⟩, by simp [Tr.seq, iNd], ?_⟩
    · simp [Tr.seq] at hu; subst hu; exact bef_irr
    · simp only [Tr.seq, List.nil_append, sumH, List.foldr_cons, List.foldr_nil, h v hv, iNd]; decide
  · obtain ⟨v, hv, rfl⟩ := mem f hf
    exact fun q => by cases q
  · obtain ⟨v, hv, rfl⟩ := mem f hf
    exact .inl rfl
  · have : ((oneF n).flatMap fun f => f.1.seq) = List.range n := by
      unfold oneF
      rw [List.flatMap_map]
      simp [Tr.seq]
    rw [this]; exact List.nodup_range
  · constructor
    · intro hu
      exact ⟨(.nd .nil u .nil, -1), by simp only [oneF, List.mem_map, List.mem_range]; exact ⟨u, hu, rfl⟩, by simp [Tr.seq]⟩
    · rintro ⟨f, hf, hu⟩
      obtain ⟨v, hv, rfl⟩ := mem f hf
      simp [Tr.seq] at hu; omega
  · rw [h x hx]
    have : ∀ F : List (Tr × Int), (∀ f, f ∈ F → f.2 = -1) → hsum N F x = 0 := fun F => by
      induction F with
      | nil => intro _; rfl
      | cons f F ih =>
        intro hF
        rw [hsum_cons, ih fun g hg => hF g (List.mem_cons_of_mem _ hg), if_neg (by rw [hF f (List.mem_cons_self ..)]; omega)]; rfl
    rw [this _ fun f hf => by obtain ⟨v, _, rfl⟩ := mem f hf; rfl]
    show (0 : Int) = w64 0
    decide
  · obtain ⟨v, hv, rfl⟩ := mem f hf
    exact ⟨rfl, trivial⟩

theorem zrow9 (n : Nat) : zrow (ndC zNd) n = flat9 (fun _ => zNd) n := by
  have key : ∀ n, flat9 (fun _ => zNd) (n + 1) = ndC zNd ++ flat9 (fun _ => zNd) n := fun n => by
    induction n with
    | zero => rfl
    | succ n ih =>
      have e : flat9 (fun _ => zNd) (n + 1) = flat9 (fun _ => zNd) n ++ ndC zNd := flat9_succ _ _
      have e2 : flat9 (fun _ => zNd) (n + 1 + 1) = flat9 (fun _ => zNd) (n + 1) ++ ndC zNd := flat9_succ _ _
      rw [e2, ih, List.append_assoc, ← e, ih]
  induction n with
  | zero => rfl
  | succ n ih => rw [key, ← ih]; simp [zrow, List.replicate_succ]

theorem lNew_spec (n : Int) (h : Hp) (K : Option Addr → Int → Hp → Prop) (hbad : ¬ (0 ≤ n ∧ n ≤ 65536) → K none 2 h)
    (hok : ∀ m : Nat, n = m → m ≤ 65536 → ∀ h' a b N, FS h' a b m N (m : Nat) → Fr h.size h h' → h.size ≤ a → h.size ≤ b → LF m N (fun _ => -1) (oneF m) → (∀ v, v < m → (N v).key = 0) → K (some ⟨a, 0, none⟩) 0 h') : g_lct_New n h K := by
  unfold g_lct_New
  refine cnd_of (fun c => hbad fun q => ?_) fun c1 => cnd_of (fun c => hbad fun q => ?_) fun c2 => ?_
  all_goals simp only [decide_eq_true_eq, decide_eq_false_iff_not] at *
  · omega
  · omega
  obtain ⟨m, rfl⟩ : ∃ m : Nat, n = m := ⟨n.toNat, by omega⟩
  have hm : m ≤ 65536 := by omega
  have hok := hok m rfl hm
  refine mks_of (by omega) (by omega) (by omega) fun h2 z2 b2 k2 => alo_of fun h4 z4 b4 k4 => ?_
  simp only [Int.toNat_natCast] at b2 b4
  have d4 : FS h4 h2.size h.size m (fun _ => zNd) (m : Nat) := ⟨⟨m, b4, Nat.le_refl _⟩, ⟨[], by rw [k4 _ (by omega), b2, ← zrow9, List.append_nil]; rfl⟩, by omega, by omega, by omega, hm⟩
  have f4 : Fr h.size h h4 := ⟨by omega, fun c hc => by rw [k4 _ (by omega), k2 _ hc]⟩
  refine for_of m (fun i (st : Int × Unit) g => st.1 = (i : Int) ∧ Fr h.size h g ∧ FS g h2.size h.size m (fun u => if u < i then iNd u else zNd) (m : Nat)) ?_ ⟨rfl, f4, by simpa using d4⟩
  rintro i Kr ⟨st, u⟩ g hi ⟨rfl, fg, dg⟩ hKr
  refine cnd_of (fun cc => ?_) fun cc => ?_
  · simp only [decide_eq_true_eq] at cc
    have him : i < m := by omega
    refine dg.nd him (K := fun a10 => stc g ((a10.add (Int.toNat (i : Int) * 9)).add 0) (.int .i64 (-1)) _) ?_
    simp only [add_mk, Nat.zero_add, Int.toNat_natCast]
    have nt : ¬ i < i := by omega
    refine dg.st him 0 (by omega) (by omega) (fun u => if u = i then { zNd with up := -1 } else if u < i then iNd u else zNd) (fun u hu => by simp only [if_neg hu]) (by simp only [if_true, if_neg nt]; rfl) fun g1 d1 f1 _ => ?_
    refine d1.st him 1 (by omega) (by omega) (fun u => if u = i then { zNd with up := -1, k0 := -1 } else if u < i then iNd u else zNd) (fun u hu => by simp only [if_neg hu]) (by simp only [if_true]; rfl) fun g2 d2 f2 _ => ?_
    refine d2.st him 2 (by omega) (by omega) (fun u => if u = i then { zNd with up := -1, k0 := -1, k1 := -1 } else if u < i then iNd u else zNd) (fun u hu => by simp only [if_neg hu]) (by simp only [if_true]; rfl) fun g3 d3 f3 _ => ?_
    refine d3.st him 3 (by omega) (by omega) (fun u => if u = i then { zNd with up := -1, k0 := -1, k1 := -1 } else if u < i then iNd u else zNd) (fun u hu => by simp only [if_neg hu]) (by simp only [if_true]; rfl) fun g4 d4 f4 _ => ?_
    refine d4.st him 4 (by omega) (by omega) (fun u => if u = i then { zNd with up := -1, k0 := -1, k1 := -1 } else if u < i then iNd u else zNd) (fun u hu => by simp only [if_neg hu]) (by simp only [if_true]; rfl) fun g5 d5 f5 _ => ?_
    refine d5.st him 5 (by omega) (by omega) (fun u => if u = i then { zNd with up := -1, k0 := -1, k1 := -1, best := i } else if u < i then iNd u else zNd) (fun u hu => by simp only [if_neg hu]) (by simp only [if_true]; rfl) fun g6 d6 f6 _ => ?_
    refine d6.st him 6 (by omega) (by omega) (fun u => if u = i then { zNd with up := -1, k0 := -1, k1 := -1, best := i, size := 1 } else if u < i then iNd u else zNd) (fun u hu => by simp only [if_neg hu]) (by simp only [if_true]; rfl) fun g7 d7 f7 _ => ?_
    refine d7.st him 7 (by omega) (by omega) (fun u => if u = i then { zNd with up := -1, k0 := -1, k1 := -1, best := i, size := 1 } else if u < i then iNd u else zNd) (fun u hu => by simp only [if_neg hu]) (by simp only [if_true]; rfl) fun g8 d8 f8 _ => ?_
    refine d8.st him 8 (by omega) (by omega) (fun u => if u = i then iNd i else if u < i then iNd u else zNd) (fun u hu => by simp only [if_neg hu]) (by simp only [if_true]; rfl) fun g9 d9 f9 _ => hKr him _ _ ⟨?_, ?_, ?_⟩
    · simp only; rw [w64, w64_eq (by omega) (by omega)]; omega
    · have F := ((((((((f1.trans f2).trans f3).trans f4).trans f5).trans f6).trans f7).trans f8).trans f9)
      have := F.size; have := fg.size
      exact ⟨by omega, fun c hc => by rw [F.blk c (by omega) (by omega) (by omega), fg.blk c hc]⟩
    · have : (fun u => if u < i + 1 then iNd u else zNd) = fun u => if u = i then iNd i else if u < i then iNd u else zNd := by
        funext u
        by_cases q : u = i
        · subst q; simp
        · by_cases q2 : u < i
          · rw [if_pos (by omega), if_neg q, if_pos q2]
          · rw [if_neg (by omega), if_neg q, if_neg q2]
      rw [this]; exact d9
  · simp only [decide_eq_false_iff_not] at cc
    obtain rfl : i = m := by omega
    exact hok g h2.size h.size _ dg fg (by omega) (Nat.le_refl _) (LF.start fun v hv => by simp only [if_pos hv]) fun v hv => by simp only [if_pos hv]; rfl

end Go.Hx
