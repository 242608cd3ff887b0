/- Splay trees with lazy reversal, by numbers of nodes. Plain; no program. No condition. -/
import Derived.Test.YtjpmgekdgpkcfaaHxLib
namespace Go.Hx
set_option linter.unusedSimpArgs false
set_option linter.unusedVariables false

/-- A node. -/
structure Nd where
  up : Int
  k0 : Int
  k1 : Int
  rev : Bool
  key : Int
  best : Int
  size : Int
  hang : Int
  all : Int

abbrev NN := Nat → Nd

inductive Tr where
  | nil
  | nd (l : Tr) (v : Nat) (r : Tr)

namespace Tr
def rt : Tr → Int
  | nil => -1
  | nd _ v _ => v
def seq : Tr → List Nat
  | nil => []
  | nd l v r => l.seq ++ v :: r.seq
def mir : Tr → Tr
  | nil => nil
  | nd l v r => nd r.mir v l.mir
theorem rt_mir (t : Tr) : t.mir.rt = t.rt := by cases t <;> rfl
theorem seq_mir (t : Tr) : t.mir.seq = t.seq.reverse := by
  induction t with
  | nil => rfl
  | nd l v r il ir => simp [mir, seq, il, ir]
theorem rt_mem {t : Tr} {v : Nat} (h : t.rt = (v : Int)) : v ∈ t.seq := by
  cases t with
  | nil => simp [rt] at h
  | nd l u r => simp only [rt] at h; simp [seq]; omega
end Tr

/-- A tree lies in the nodes; c: whether what is above reverses it; p: what its root's up is. -/
def RS (N : NN) : Bool → Tr → Int → Prop
  | _, .nil, _ => True
  | c, .nd l v r, p => (N v).up = p ∧ (if (c ^^ (N v).rev) = true then (N v).k0 = r.rt ∧ (N v).k1 = l.rt else (N v).k0 = l.rt ∧ (N v).k1 = r.rt) ∧ RS N (c ^^ (N v).rev) l v ∧ RS N (c ^^ (N v).rev) r v

/-- The places of two nodes are the same. -/
def sam (N N' : NN) (u : Nat) : Prop := (N' u).up = (N u).up ∧ (N' u).k0 = (N u).k0 ∧ (N' u).k1 = (N u).k1 ∧ (N' u).rev = (N u).rev

theorem RS.congr {N N' : NN} {c : Bool} {t : Tr} {p : Int} (h : RS N c t p) (e : ∀ u, u ∈ t.seq → sam N N' u) : RS N' c t p := by
  induction t generalizing c p with
  | nil => trivial
  | nd l v r il ir =>
    obtain ⟨h1, h2, h3, h4⟩ := h
    obtain ⟨e1, e2, e3, e4⟩ := e v (by simp [Tr.seq])
    refine ⟨by rw [e1, h1], by rw [e2, e3, e4]; exact h2, ?_, ?_⟩
    · rw [e4]; exact il h3 fun u hu => e u (by simp [Tr.seq, hu])
    · rw [e4]; exact ir h4 fun u hu => e u (by simp [Tr.seq, hu])

/-- The root hangs elsewhere. -/
theorem RS.repar {N N' : NN} {c : Bool} {t : Tr} {p q : Int} (h : RS N c t p) (nd : t.seq.Nodup) (e : ∀ u, u ∈ t.seq → (N' u).k0 = (N u).k0 ∧ (N' u).k1 = (N u).k1 ∧ (N' u).rev = (N u).rev ∧ (N' u).up = if (u : Int) = t.rt then q else (N u).up) : RS N' c t q := by
  cases t with
  | nil => trivial
  | nd l v r =>
    obtain ⟨h1, h2, h3, h4⟩ := h
    obtain ⟨e1, e2, e3, e4⟩ := e v (by simp [Tr.seq])
    simp only [Tr.seq, List.nodup_append, List.nodup_cons] at nd
    refine ⟨by rw [e4, if_pos (show (v : Int) = (Tr.nd l v r).rt from rfl)], by rw [e1, e2, e3]; exact h2, ?_, ?_⟩
    · rw [e3]
      refine h3.congr fun u hu => ?_
      obtain ⟨f1, f2, f3, f4⟩ := e u (by simp [Tr.seq, hu])
      have : u ≠ v := fun q => nd.2.2 u hu v (by simp) q
      rw [if_neg (by simp only [Tr.rt]; omega)] at f4
      exact ⟨f4, f1, f2, f3⟩
    · rw [e3]
      refine h4.congr fun u hu => ?_
      obtain ⟨f1, f2, f3, f4⟩ := e u (by simp [Tr.seq, hu])
      have : u ≠ v := fun q => nd.2.1.1 (q ▸ hu)
      rw [if_neg (by simp only [Tr.rt]; omega)] at f4
      exact ⟨f4, f1, f2, f3⟩

/-- The reversal of the root says the other thing. -/
theorem RS.tog {N N' : NN} {c : Bool} {t : Tr} {p : Int} (h : RS N c t p) (nd : t.seq.Nodup) (e : ∀ u, u ∈ t.seq → (N' u).up = (N u).up ∧ (N' u).k0 = (N u).k0 ∧ (N' u).k1 = (N u).k1 ∧ (N' u).rev = if (u : Int) = t.rt then !(N u).rev else (N u).rev) : RS N' (!c) t p := by
  cases t with
  | nil => trivial
  | nd l v r =>
    obtain ⟨h1, h2, h3, h4⟩ := h
    obtain ⟨e1, e2, e3, e4⟩ := e v (by simp [Tr.seq])
    simp only [Tr.seq, List.nodup_append, List.nodup_cons] at nd
    rw [if_pos (show (v : Int) = (Tr.nd l v r).rt from rfl)] at e4
    have x : ((!c) ^^ (N' v).rev) = (c ^^ (N v).rev) := by rw [e4]; cases c <;> cases (N v).rev <;> rfl
    refine ⟨by rw [e1, h1], by rw [x, e2, e3]; exact h2, ?_, ?_⟩
    · rw [x]
      refine h3.congr fun u hu => ?_
      obtain ⟨f1, f2, f3, f4⟩ := e u (by simp [Tr.seq, hu])
      have : u ≠ v := fun q => nd.2.2 u hu v (by simp) q
      rw [if_neg (by simp only [Tr.rt]; omega)] at f4
      exact ⟨f1, f2, f3, f4⟩
    · rw [x]
      refine h4.congr fun u hu => ?_
      obtain ⟨f1, f2, f3, f4⟩ := e u (by simp [Tr.seq, hu])
      have : u ≠ v := fun q => nd.2.1.1 (q ▸ hu)
      rw [if_neg (by simp only [Tr.rt]; omega)] at f4
      exact ⟨f1, f2, f3, f4⟩

theorem RS.mir {N : NN} {c : Bool} {t : Tr} {p : Int} (h : RS N c t p) : RS N (!c) t.mir p := by
  induction t generalizing c p with
  | nil => trivial
  | nd l v r il ir =>
    obtain ⟨h1, h2, h3, h4⟩ := h
    have x : ((!c) ^^ (N v).rev) = !(c ^^ (N v).rev) := by cases c <;> cases (N v).rev <;> rfl
    refine ⟨h1, ?_, by rw [x]; exact ir h4, by rw [x]; exact il h3⟩
    rw [x, Tr.rt_mir, Tr.rt_mir]
    cases hc : (c ^^ (N v).rev) <;> rw [hc] at h2 <;> simpa using h2

/-- Children of a node of a tree are nil or in it. -/
theorem RS.kids {N : NN} {c : Bool} {t : Tr} {p : Int} (h : RS N c t p) {v : Nat} (hv : v ∈ t.seq) : ((N v).k0 = -1 ∨ ∃ u : Nat, (N v).k0 = u ∧ u ∈ t.seq) ∧ ((N v).k1 = -1 ∨ ∃ u : Nat, (N v).k1 = u ∧ u ∈ t.seq) := by
  induction t generalizing c p with
  | nil => cases hv
  | nd l w r il ir =>
    obtain ⟨h1, h2, h3, h4⟩ := h
    have up : ∀ {x : Int}, (x = -1 ∨ ∃ u : Nat, x = u ∧ u ∈ l.seq) → (x = -1 ∨ ∃ u : Nat, x = u ∧ u ∈ (Tr.nd l w r).seq) := fun h => h.imp_right fun ⟨u, e, hu⟩ => ⟨u, e, by simp [Tr.seq, hu]⟩
    have up' : ∀ {x : Int}, (x = -1 ∨ ∃ u : Nat, x = u ∧ u ∈ r.seq) → (x = -1 ∨ ∃ u : Nat, x = u ∧ u ∈ (Tr.nd l w r).seq) := fun h => h.imp_right fun ⟨u, e, hu⟩ => ⟨u, e, by simp [Tr.seq, hu]⟩
    simp only [Tr.seq, List.mem_append, List.mem_cons] at hv
    rcases hv with hv | rfl | hv
    · exact ⟨up (il h3 hv).1, up (il h3 hv).2⟩
    · have rl : ∀ t : Tr, t.rt = -1 ∨ ∃ u : Nat, t.rt = u ∧ u ∈ t.seq := fun t => by
        cases t with
        | nil => exact .inl rfl
        | nd a b d => exact .inr ⟨b, rfl, by simp [Tr.seq]⟩
      split at h2
      · rw [h2.1, h2.2]; exact ⟨up' (rl r), up (rl l)⟩
      · rw [h2.1, h2.2]; exact ⟨up (rl l), up' (rl r)⟩
    · exact ⟨up' (ir h4 hv).1, up' (ir h4 hv).2⟩

/-- The reversal of a node is passed to its children. -/
def pushN (N : NN) (v : Nat) : NN := fun u => if (N v).rev = true then
    (if u = v then { N v with rev := false, k0 := (N v).k1, k1 := (N v).k0 } else if (u : Int) = (N v).k0 ∨ (u : Int) = (N v).k1 then { N u with rev := !(N u).rev } else N u) else N u

theorem pushN_rev (N : NN) (v : Nat) : (pushN N v v).rev = false := by
  unfold pushN
  by_cases h : (N v).rev = true
  · simp [h]
  · simp only [h, if_false]; simpa using h

theorem push_out {N : NN} {c : Bool} {t s : Tr} {p q : Int} {v : Nat} (ht : RS N c t p) (hv : v ∈ t.seq) (hs : RS N c s q) (dis : ∀ u, u ∈ t.seq → u ∉ s.seq) {c' : Bool} (hs' : RS N c' s q) : RS (pushN N v) c' s q := by
  refine hs'.congr fun u hu => ?_
  have n1 : u ≠ v := fun e => dis v hv (e ▸ hu)
  have n2 : ¬ ((u : Int) = (N v).k0 ∨ (u : Int) = (N v).k1) := by
    obtain ⟨a, b⟩ := ht.kids hv
    rintro (e | e)
    · rcases a with a | ⟨w, a, hw⟩
      · omega
      · obtain rfl : u = w := by omega
        exact dis u hw hu
    · rcases b with b | ⟨w, b, hw⟩
      · omega
      · obtain rfl : u = w := by omega
        exact dis u hw hu
  unfold pushN sam
  simp only [n1, n2, if_false]
  split <;> exact ⟨rfl, rfl, rfl, rfl⟩

theorem push_same {N : NN} {v u : Nat} (n1 : u ≠ v) (n2 : ¬ ((u : Int) = (N v).k0 ∨ (u : Int) = (N v).k1)) : pushN N v u = N u := by
  unfold pushN
  simp only [n1, n2, if_false]
  split <;> rfl

theorem push_RS {N : NN} {c : Bool} {t : Tr} {p : Int} {v : Nat} (h : RS N c t p) (nd : t.seq.Nodup) (hv : v ∈ t.seq) : RS (pushN N v) c t p := by
  induction t generalizing c p with
  | nil => cases hv
  | nd l w r il ir =>
    obtain ⟨h1, h2, h3, h4⟩ := h
    have nd' := nd
    simp only [Tr.seq, List.nodup_append, List.nodup_cons] at nd'
    obtain ⟨nl, ⟨wr, nr⟩, lr⟩ := nd'
    have wl : w ∉ l.seq := fun q => lr w q w (by simp) rfl
    have dlr : ∀ u, u ∈ l.seq → u ∉ r.seq := fun u hu hr => lr u hu u (by simp [hr]) rfl
    simp only [Tr.seq, List.mem_append, List.mem_cons] at hv
    -- a node of one side is nowhere else
    have side : ∀ {s : Tr}, RS N (c ^^ (N w).rev) s w → v ∈ s.seq → w ∉ s.seq → pushN N v w = N w := fun {s} hs hvs hws => by
      obtain ⟨a, b⟩ := hs.kids hvs
      refine push_same (fun e => hws (e ▸ hvs)) ?_
      rintro (e | e)
      · rcases a with a | ⟨x, a, hx⟩
        · omega
        · obtain rfl : w = x := by omega
          exact hws hx
      · rcases b with b | ⟨x, b, hx⟩
        · omega
        · obtain rfl : w = x := by omega
          exact hws hx
    rcases hv with hv | rfl | hv
    · have e := side h3 hv wl
      unfold RS
      rw [e]
      exact ⟨h1, h2, il h3 nl hv, push_out h3 hv h4 dlr h4⟩
    · by_cases hr : (N v).rev = true
      · have ev : pushN N v v = { N v with rev := false, k0 := (N v).k1, k1 := (N v).k0 } := by unfold pushN; simp [hr]
        unfold RS
        rw [ev]
        simp only [hr, Bool.xor_true, Bool.xor_false, Bool.not_eq_true', Bool.not_eq_false] at h2 h3 h4 ⊢
        have kid : ∀ {s : Tr}, RS N (!c) s v → s.seq.Nodup → v ∉ s.seq → ((N v).k0 = s.rt ∨ (N v).k1 = s.rt) → (∀ u, u ∈ s.seq → (u : Int) ≠ s.rt → (u : Int) ≠ (N v).k0 ∧ (u : Int) ≠ (N v).k1) → RS (pushN N v) c s v := fun {s} hs ns hvs hk ho => by
          have := hs.tog (N' := pushN N v) ns fun u hu => by
            have n1 : u ≠ v := fun e => hvs (e ▸ hu)
            by_cases e : (u : Int) = s.rt
            · have n2 : (u : Int) = (N v).k0 ∨ (u : Int) = (N v).k1 := by rw [e]; exact hk.imp Eq.symm Eq.symm
              have ev : pushN N v u = { N u with rev := !(N u).rev } := by unfold pushN; rw [if_pos hr, if_neg n1, if_pos n2]
              rw [ev, if_pos e]; exact ⟨rfl, rfl, rfl, rfl⟩
            · have := ho u hu e
              rw [push_same n1 fun q => q.elim this.1 this.2, if_neg e]; exact ⟨rfl, rfl, rfl, rfl⟩
          rwa [Bool.not_not] at this
        have other : ∀ {s s' : Tr}, (∀ u, u ∈ s.seq → u ∉ s'.seq) → ∀ u, u ∈ s.seq → (u : Int) ≠ s'.rt := fun {s s'} hd u hu e => hd u hu (Tr.rt_mem e.symm)
        have drl : ∀ u, u ∈ r.seq → u ∉ l.seq := fun u hu hl => dlr u hl hu
        refine ⟨h1, ?_, ?_, ?_⟩
        · cases c <;> simp at h2 ⊢ <;> exact ⟨h2.2, h2.1⟩
        · refine kid h3 nl wl ?_ fun u hu hn => ?_
          · cases c <;> simp at h2 <;> simp [h2.1, h2.2]
          · have := other dlr u hu
            cases c <;> simp at h2 <;> rw [h2.1, h2.2] <;> simp [hn, this]
        · refine kid h4 nr wr ?_ fun u hu hn => ?_
          · cases c <;> simp at h2 <;> simp [h2.1, h2.2]
          · have := other drl u hu
            cases c <;> simp at h2 <;> rw [h2.1, h2.2] <;> simp [hn, this]
      · have e : pushN N v = N := by funext u; unfold pushN; simp [hr]
        rw [e]; exact ⟨h1, h2, h3, h4⟩
    · have e := side h4 hv wr
      unfold RS
      rw [e]
      exact ⟨h1, h2, push_out h4 hv h3 (fun u hu hl => dlr u hl hu) h3, ir h4 nr hv⟩

end Go.Hx
