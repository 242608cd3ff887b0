/- What a piece of loaded code asks, as a proposition over the abstract heap: computed by structural recursion on the code. No condition. -/
import Derived.Test.YthohhnnjpaepnaaHxHeap
import Derived.Tactics

import Derived.OrdersHeld
import Derived.Wp
namespace Go.Hx
set_option linter.unusedSimpArgs false
set_option linter.unusedVariables false
open Go.RowKit

/-- A slice's value. -/
structure Sl where
  a : Option Addr
  n : Nat
  c : Nat

/-! ### The words of the printed conditions -/

def cnd (b : Bool) (X Y : Prop) : Prop := match b with
  | true => X
  | false => Y

/-- The same, for the conditions' own use. -/
abbrev cnd' (b : Bool) (X Y : Prop) : Prop := match b with
  | true => X
  | false => Y

def nn (p : Option Addr) (K : Addr → Prop) : Prop := ∃ a, p = some a ∧ K a
def ldB (h : Hp) (a : Addr) (K : Bool → Prop) : Prop := ∃ b, h.cell a = some (.bool b) ∧ K b
def ldI (k : IntKind) (h : Hp) (a : Addr) (K : Int → Prop) : Prop := ∃ n, h.cell a = some (.int k n) ∧ K n
def ldP (h : Hp) (a : Addr) (K : Option Addr → Prop) : Prop := ∃ p, h.cell a = some (.pointer p) ∧ K p
def ldS (h : Hp) (a : Addr) (K : Sl → Prop) : Prop := ∃ s : Sl, h.cell a = some (.slice s.a s.n s.c) ∧ K s
def ldM (h : Hp) (a : Addr) (K : Option Nat → Prop) : Prop := ∃ r, h.cell a = some (.map r) ∧ K r
def ldV (h : Hp) (a : Addr) (K : Value → Prop) : Prop := ∃ v, h.cell a = some v ∧ v.oneCell = true ∧ K v
def stc (h : Hp) (a : Addr) (v : Value) (K : Hp → Prop) : Prop := h.wr a ∧ K (h.set a v)
def alo (h : Hp) (xs : List Value) (K : Addr → Hp → Prop) : Prop := K ⟨h.size, 0, none⟩ (h.push xs)
def ix (s : Option Addr) (n : Nat) (i : Int) (K : Addr → Prop) : Prop := ∃ a, s = some a ∧ 0 ≤ i ∧ i < (n : Int) ∧ K a
def bnd (i n : Int) (K : Prop) : Prop := 0 ≤ i ∧ i < n ∧ K
def nz (i : Int) (K : Prop) : Prop := i ≠ 0 ∧ K
/-- Cutting a slice. -/
def cut (l h m cap : Int) (K : Prop) : Prop := 0 ≤ l ∧ l ≤ h ∧ h ≤ m ∧ m ≤ cap ∧ K
/-- One of several values, by an index. -/
abbrev sel (K : Value → Prop) (i : Int) : List Value → Nat → Prop
  | [], _ => True
  | v :: vs, j => (i = (j : Int) → K v) ∧ sel K i vs (j + 1)

def zrow (z : List Value) (n : Nat) : List Value := (List.replicate n z).flatten

/-- append: within the capacity, or into a new row of whatever capacity. -/
def app (size bytes : Nat) (z : List Value) (s x : Sl) (h : Hp) (K : Sl → Hp → Prop) : Prop :=
  ∃ olds news : List Value, h.seg s.a (s.n * size) = some olds ∧ h.seg x.a (x.n * size) = some news ∧
    (∀ v ∈ news, v.oneCell = true) ∧
    (s.n + x.n ≤ s.c → (∀ a, s.a = some a → a.spot = none ∧ (0 < x.n * size → ∃ xs, h.blk a.block = some (.cells xs) ∧ a.off + (s.n + x.n) * size ≤ xs.length)) ∧
      K ⟨s.a, s.n + x.n, s.c⟩ (match s.a with | some a => h.setl (a.add (s.n * size)) news 0 | none => h)) ∧
    (s.c < s.n + x.n → (s.n + x.n) * bytes ≤ 2 ^ 47 ∧ s.n + x.n < 2 ^ 63 ∧
      ∀ cap, s.n + x.n ≤ cap → K ⟨some ⟨h.size, 0, none⟩, s.n + x.n, cap⟩ (h.push (olds ++ news ++ zrow z (cap - (s.n + x.n)))))

/-- clear, of a slice. -/
def clr (size : Nat) (z : List Value) (s : Sl) (h : Hp) (K : Hp → Prop) : Prop :=
  ((s.a = none ∨ s.n = 0) → K h) ∧ ∀ a, s.a = some a → 0 < s.n → a.spot = none ∧ (∃ xs, h.blk a.block = some (.cells xs) ∧ a.off + s.n * size ≤ xs.length) ∧ K (h.setl a (zrow z s.n) 0)

/-- copy, of slices. -/
def cpy (size : Nat) (d s : Sl) (h : Hp) (K : Int → Hp → Prop) : Prop :=
  ∃ cs : List Value, h.seg s.a (min s.n d.n * size) = some cs ∧ (∀ v ∈ cs, v.oneCell = true) ∧ (d.a = none → K (min s.n d.n : Nat) h) ∧
    ∀ a, d.a = some a → a.spot = none ∧ (0 < min s.n d.n * size → ∃ xs, h.blk a.block = some (.cells xs) ∧ a.off + min s.n d.n * size ≤ xs.length) ∧ K (min s.n d.n : Nat) (h.setl a cs 0)

/-- math/bits.Add64. -/
def add64 (x y c : Int) (h : Hp) (K : Int → Int → Hp → Prop) : Prop := 0 ≤ x ∧ 0 ≤ y ∧ 0 ≤ c ∧ c ≤ 1 ∧ K ((x + y + c) % 18446744073709551616) ((x + y + c) / 18446744073709551616) h

def mks (bytes : Nat) (z : List Value) (n c : Int) (h : Hp) (K : Sl → Hp → Prop) : Prop :=
  0 ≤ n ∧ n ≤ c ∧ bytes * c ≤ 2 ^ 48 ∧ K ⟨some ⟨h.size, 0, none⟩, n.toNat, c.toNat⟩ (h.push (zrow z c.toNat))

def jn {σ : Type} (R : σ → Hp → Prop) (f : (σ → Hp → Prop) → Prop) : Prop := f R

def iter {σ : Type} (body : (σ → Hp → Prop) → σ → Hp → Prop) : Nat → σ → Hp → Prop
  | 0, _, _ => False
  | n + 1, s, h => body (iter body n) s h

def loopP {σ : Type} (body : (σ → Hp → Prop) → σ → Hp → Prop) (s : σ) (h : Hp) : Prop := ∃ n, iter body n s h

/-! ### Kinds of cells, and what is carried from round to round -/

inductive LK where
  | bool | int (k : IntKind) | ptr | slice | map | any | adr

abbrev LK.T : LK → Type
  | .bool => Bool
  | .int _ => Int
  | .ptr => Option Addr
  | .slice => Sl
  | .map => Option Nat
  | .any => Value
  | .adr => Addr

def LK.emb : (l : LK) → l.T → Value
  | .bool, b => .bool b
  | .int k, n => .int k n
  | .ptr, p => .pointer p
  | .slice, s => .slice s.a s.n s.c
  | .map, r => .map r
  | .any, v => v
  | .adr, a => .pointer (some a)

def ieq (j k : IntKind) : Bool := match j, k with
  | .i8, .i8 | .i16, .i16 | .i32, .i32 | .i64, .i64 | .u8, .u8 | .u16, .u16 | .u32, .u32 | .u64, .u64 => true
  | _, _ => false

theorem ieq_eq {j k : IntKind} (h : ieq j k = true) : j = k := by cases j <;> cases k <;> first | rfl | cases h

abbrev LK.proj : (l : LK) → Value → (l.T → Prop) → Prop
  | .bool, .bool b, K => K b
  | .int k, .int j n, K => cnd' (ieq j k) (K n) False
  | .ptr, .pointer p, K => K p
  | .slice, .slice a n c, K => K ⟨a, n, c⟩
  | .map, .map r, K => K r
  | .any, v, K => K v
  | .adr, .pointer (some a), K => K a
  | _, _, _ => False

abbrev LKs : List LK → Type
  | [] => Unit
  | l :: r => l.T × LKs r

def embs : (ls : List LK) → LKs ls → List Value
  | [], _ => []
  | l :: r, x => l.emb x.1 :: embs r x.2

abbrev projs : (ls : List LK) → List Value → (LKs ls → Prop) → Prop
  | [], [], K => K ()
  | l :: r, v :: vs, K => l.proj v fun x => projs r vs fun y => K (x, y)
  | _, _, _ => False

inductive Ty where
  | sc (l : LK)
  | ag (ls : List LK)

abbrev Ty.T : Ty → Type
  | .sc l => l.T
  | .ag ls => LKs ls

def Ty.emb : (t : Ty) → t.T → Value
  | .sc l, x => l.emb x
  | .ag ls, x => .agg (embs ls x).toArray

abbrev Ty.proj : (t : Ty) → Option Value → (t.T → Prop) → Prop
  | .sc l, some v, K => l.proj v K
  | .ag ls, some (.agg vs), K => projs ls vs.toList K
  | _, _, _ => False

abbrev Env := List (Option Value)

def Env.get : Env → Nat → Option Value
  | [], _ => none
  | x :: _, 0 => x
  | _ :: r, n + 1 => Env.get r n

def Env.put (e : Env) (d : Option Tmp) (v : Value) : Env := match d with
  | some d => e.set d (some v)
  | none => e

abbrev Lv := List (Nat × Ty)

abbrev Tup : Lv → Type
  | [] => Unit
  | x :: r => x.2.T × Tup r

/-- What is left of a frame once these slots have been written. -/
def ovr (M : List Nat) : Env → Nat → Env
  | [], _ => []
  | x :: r, i => (match M.elem i with | true => none | false => x) :: ovr M r (i + 1)

def mk (e : Env) (M : List Nat) : (L : Lv) → Tup L → Env
  | [], _ => ovr M e 0
  | x :: r, s => (mk e M r s.2).set x.1 (some (x.2.emb s.1))

abbrev proj : (L : Lv) → Env → (Tup L → Prop) → Prop
  | [], _, K => K ()
  | x :: r, e, K => x.2.proj (e.get x.1) fun y => proj r e fun z => K (y, z)

def xev (e : Env) : Operand → Option Value
  | .tmp t => e.get t
  | .const v => some v
  | .global g => some (.pointer (some ⟨g, 0, none⟩))
  | .func f => some (.func (.func f) #[] #[])

def xevs (e : Operand → Option Value) : List Operand → Option (List Value)
  | [] => some []
  | x :: r => match e x, xevs e r with
    | some v, some vs => some (v :: vs)
    | _, _ => none

def xevp (e : Operand → Option Value) : List (Nat × Operand) → Option (List (Nat × Value))
  | [] => some []
  | (i, x) :: r => match e x, xevp e r with
    | some v, some vs => some ((i, v) :: vs)
    | _, _ => none

/-! ### Types -/

def zeroOf (P : Program) (t : TypeId) : Option Value := (P.info? t).bind (·.zero)

def lks (P : Program) : Nat → TypeId → Option (List LK)
  | 0, _ => none
  | d + 1, t => match P.underlying t with
    | some .bool => some [.bool]
    | some (.int k) => some [.int k]
    | some (.pointer _) => some [.ptr]
    | some (.slice _) => some [.slice]
    | some (.map _ _) => some [.map]
    | some (.func _ _ _) => some [.any]
    | some .string => some [.any]
    | some (.struct fs) => fs.toList.foldr (fun f acc => match lks P d f.type, acc with | some x, some y => some (x ++ y) | _, _ => none) (some [])
    | some (.array n e) => match lks P d e with
      | some x => some (List.replicate n x).flatten
      | none => none
    | _ => none

abbrev ld1 (h : Hp) (a : Addr) : LK → (Value → Prop) → Prop
  | .bool, K => ldB h a fun b => K (.bool b)
  | .int k, K => ldI k h a fun n => K (.int k n)
  | .ptr, K => ldP h a fun p => K (.pointer p)
  | .slice, K => ldS h a fun s => K (.slice s.a s.n s.c)
  | .map, K => ldM h a fun r => K (.map r)
  | .any, K => ldV h a K
  | .adr, _ => False

abbrev xloads (h : Hp) (a : Addr) : List LK → Nat → (List Value → Prop) → Prop
  | [], _, K => K []
  | l :: r, i, K => ld1 h (a.add i) l fun v => xloads h a r (i + 1) fun vs => K (v :: vs)

def isAg (P : Program) (t : TypeId) : Bool := match P.underlying t with
  | some (.struct _) | some (.array _ _) => true
  | _ => false

abbrev xload (P : Program) (t : TypeId) (h : Hp) (a : Addr) (K : Value → Prop) : Prop :=
  match lks P 9 t with
  | some ls => match isAg P t, ls with
    | true, ls => match Nat.beq ls.length (P.cellsOf t) with
      | true => xloads h a ls 0 fun vs => K (.agg vs.toArray)
      | false => False
    | false, [l] => ld1 h a l K
    | _, _ => False
  | none => False

/-! ### Operations that only read -/

/-- A struct or an array of bools and integers alone, without blank fields. -/
def plainAgg (P : Program) (t : TypeId) : Bool := match P.underlying t with
  | some (.struct fs) => !P.stoodInHeld t && fs.toList.all fun f => f.name != "_" && match P.underlying f.type with
    | some .bool | some (.int _) => Nat.beq (P.cellsOf f.type) 1
    | _ => false
  | some (.array _ e) => match P.underlying e with
    | some .bool | some (.int _) => Nat.beq (P.cellsOf e) 1
    | _ => false
  | _ => false

/-- Equality of two values of one cell. -/
def veq (P : Program) (t : TypeId) (x y : Value) : Option Bool := match P.underlying t, x, y with
  | some .bool, .bool a, .bool b => some (a == b)
  | some (.int _), .int j a, .int k b => match ieq j k with | true => some (a == b) | false => none
  | _, _, _ => none

def veqs (P : Program) (xs ys : List Value) : List TypeId → Nat → Option Bool
  | [], _ => some true
  | [t], o => match xs[o]?, ys[o]? with
    | some x, some y => veq P t x y
    | _, _ => none
  | t :: u :: r, o => match xs[o]?, ys[o]? with
    | some x, some y => match veq P t x y, veqs P xs ys (u :: r) (o + 1) with
      | some a, some b => some (a && b)
      | _, _ => none
    | _, _ => none

/-- Whether a struct's fields lie one behind the other, a cell each. -/
def inRow : List Field → Nat → Bool
  | [], _ => true
  | f :: r, i => Nat.beq f.offset i && inRow r (i + 1)

def xeqs (P : Program) (t : TypeId) (xs ys : List Value) : Option Bool := match P.underlying t with
  | some (.struct fs) => match inRow fs.toList 0 with
    | true => veqs P xs ys (fs.toList.map (·.type)) 0
    | false => none
  | some (.array n e) => veqs P xs ys (List.replicate n e) 0
  | _ => none

abbrev xbin (P : Program) (t : TypeId) (op : BinOp) (x y : Value) (K : Value → Prop) : Prop :=
  match op, x, y with
  | .shl, .int k a, .int _ b => 0 ≤ b ∧ K (.int k (k.wrap (a * 2 ^ (min b.toNat k.bits))))
  | .shr, .int k a, .int _ b => 0 ≤ b ∧ K (.int k (a.fdiv (2 ^ (min b.toNat k.bits))))
  | op, .int k a, .int j b =>
    cnd' (ieq k j) (match op with
      | .add => K (.int k (k.wrap (a + b)))
      | .sub => K (.int k (k.wrap (a - b)))
      | .mul => K (.int k (k.wrap (a * b)))
      | .quo => nz b (K (.int k (k.wrap (a.tdiv b))))
      | .rem => nz b (K (.int k (a.tmod b)))
      | .and => K (.int k (k.wrap (BitVec.ofInt k.bits a &&& BitVec.ofInt k.bits b).toNat))
      | .or => K (.int k (k.wrap (BitVec.ofInt k.bits a ||| BitVec.ofInt k.bits b).toNat))
      | .xor => K (.int k (k.wrap (BitVec.ofInt k.bits a ^^^ BitVec.ofInt k.bits b).toNat))
      | .eql => K (.bool (a == b))
      | .neq => K (.bool (a != b))
      | .lss => K (.bool (a < b))
      | .leq => K (.bool (a ≤ b))
      | .gtr => K (.bool (a > b))
      | .geq => K (.bool (a ≥ b))
      | _ => False) False
  | .eql, .bool a, .bool b => match P.underlying t with | some .bool => K (.bool (a == b)) | _ => False
  | .neq, .bool a, .bool b => match P.underlying t with | some .bool => K (.bool (!(a == b))) | _ => False
  | .eql, .pointer p, .pointer none => match P.underlying t with | some (.pointer _) => K (.bool p.isNone) | _ => False
  | .neq, .pointer p, .pointer none => match P.underlying t with | some (.pointer _) => K (.bool (!p.isNone)) | _ => False
  | .eql, .slice a _ _, .slice none 0 0 => match P.underlying t with | some (.slice _) => K (.bool a.isNone) | _ => False
  | .neq, .slice a _ _, .slice none 0 0 => match P.underlying t with | some (.slice _) => K (.bool (!a.isNone)) | _ => False
  | .eql, .func _ _ _, .nilFunc => match P.underlying t with | some (.func _ _ _) => K (.bool false) | _ => False
  | .neq, .func _ _ _, .nilFunc => match P.underlying t with | some (.func _ _ _) => K (.bool true) | _ => False
  | _, _, _ => False

abbrev xsel (K : Value → Prop) (i : Int) (vs : List Value) : Prop := sel K i vs 0

def tyOk (P : Program) (t : TypeId) : Bool := Nat.ble 1 (P.cellsOf t) && (P.underlying t).isSome

def partL (P : Program) (t : TypeId) (cs : List Value) (off : Nat) : Option Value :=
  match isAg P t with
  | true => some (.agg ((cs.drop off).take (P.cellsOf t)).toArray)
  | false => cs[off]?

/-- Cells laid one behind the other into a list. -/
def putAt : List Value → Nat → List Value → List Value
  | cs, _, [] => cs
  | cs, o, v :: vs => putAt (cs.set o v) (o + 1) vs

def xfill (place : Nat → Option (Nat × Nat)) : List Value → List (Nat × Value) → Option (List Value)
  | cs, [] => some cs
  | cs, (i, v) :: r => match place i with
    | none => none
    | some (o, n) => match Nat.beq v.cells.toList.length n && Nat.ble (o + n) cs.length with
      | true => xfill place (putAt cs o v.cells.toList) r
      | false => none

def placesOf (P : Program) (t : TypeId) : Nat → Option (Nat × Nat) := match P.underlying t with
  | some (.struct fs) => fun i => (fs[i]?).map fun f => (f.offset, P.cellsOf f.type)
  | some (.array _ e) => fun i => some (i * P.cellsOf e, P.cellsOf e)
  | _ => fun _ => none

def buildOk (P : Program) (t : TypeId) : Bool := match P.underlying t with
  | some (.struct fs) => fs.toList.all fun f => (P.info? f.type).isSome
  | some (.array _ e) => (P.info? e).isSome
  | _ => false

abbrev xslice (P : Program) (t : TypeId) (v : Value) (lo hi mx : Option Int) (K : Value → Prop) : Prop :=
  match P.underlying t, v with
  | some (.slice e), .slice a n c =>
    let m := mx.getD c
    let hh := hi.getD n
    let l := lo.getD 0
    match Nat.ble 1 (P.cellsOf e) with
    | true => cut l hh m c (K (.slice (if m = l then a else a.map (·.add (l.toNat * P.cellsOf e))) (hh - l).toNat (m - l).toNat))
    | false => False
  | _, _ => False

def oint (e : Operand → Option Value) : Option Operand → Option (Option Int)
  | none => some none
  | some x => match e x with
    | some (.int _ n) => some (some n)
    | _ => none

abbrev xlen (P : Program) (t : TypeId) (v : Value) (K : Value → Prop) : Prop :=
  match P.underlying t, v with
  | some (.slice _), .slice _ n _ => K (.int .i64 n)
  | some (.array n _), _ => K (.int .i64 n)
  | _, _ => False

abbrev xmin : List Value → (Value → Prop) → Prop
  | [.int k x, .int _ y], K => K (.int k (if y < x then y else x))
  | _, _ => False

abbrev xmax : List Value → (Value → Prop) → Prop
  | [.int k x, .int _ y], K => K (.int k (if y > x then y else x))
  | _, _ => False

/-- An operation that leaves the heap alone. -/
abbrev xval (P : Program) (op : Op) (ev : Operand → Option Value) (h : Hp) (K : Value → Prop) : Prop :=
  match op with
  | .move x | .assign x => match ev x with
    | some v => K v
    | none => False
  | .pick c a b => match ev c with
    | some (.bool true) => match ev a with | some v => K v | none => False
    | some (.bool false) => match ev b with | some v => K v | none => False
    | _ => False
  | .build t parts => match xevp ev parts.toList, zeroOf P t with
    | some ps, some z => match buildOk P t, xfill (placesOf P t) z.cells.toList ps with
      | true, some cs => K (.agg cs.toArray)
      | _, _ => False
    | _, _ => False
  | .load t a => match ev a with
    | some (.pointer (some ad)) => xload P t h ad K
    | _ => False
  | .nilCheck x => match ev x with
    | some (.pointer p) => nn p fun a => K (.pointer (some a))
    | some (.func (.func f) fi c) => K (.func (.func f) fi c)
    | some (.func (.yield l) fi c) => K (.func (.yield l) fi c)
    | _ => False
  | .binOp op t x y _ => match ev x, ev y with
    | some (.agg a), some (.agg b) => match isAg P t && plainAgg P t && !P.eqGuardType P.depth t, xeqs P t a.toList b.toList with
      | true, some r => match op with
        | .eql => K (.bool r)
        | .neq => K (.bool (!r))
        | _ => False
      | _, _ => False
    | some a, some b => xbin P t op a b K
    | _, _ => False
  | .unOp op _ x => match op, ev x with
    | .not, some (.bool b) => K (.bool (!b))
    | .neg, some (.int k n) => K (.int k (k.wrap (0 - n)))
    | _, _ => False
  | .convert s d x => match P.underlying s, P.underlying d, ev x with
    | some _, some (.int k), some (.int _ n) => K (.int k (k.wrap n))
    | _, _, _ => False
  | .makeFunc fn fi c => match xevs ev fi.toList, xevs ev c.toList with
    | some a, some b => K (.func fn a.toArray b.toArray)
    | _, _ => False
  | .slice t x lo hi mx => match ev x, oint ev lo, oint ev hi, oint ev mx with
    | some v, some l, some hh, some m => match !mx.isSome || hi.isSome with
      | true => xslice P t v l hh m K
      | false => False
    | _, _, _, _ => False
  | .fieldAddr s x f => match P.underlying s, ev x with
    | some (.struct fs), some (.pointer (some a)) => match fs[f]? with
      | some g => match Nat.beq (P.cellsOf g.type) 0 with
        | false => K (.pointer (some (a.add g.offset)))
        | true => False
      | none => False
    | _, _ => False
  | .field t x f => match P.underlying t, ev x with
    | some (.struct fs), some (.agg cs) => match fs[f]? with
      | some g => match tyOk P g.type, partL P g.type cs.toList g.offset with
        | true, some v => K v
        | _, _ => False
      | none => False
    | _, _ => False
  | .indexAddr t x i => match P.underlying t, ev x, ev i with
    | some (.slice e), some (.slice a n _), some (.int _ j) => match Nat.ble 1 (P.cellsOf e) with
      | true => ix a n j fun b => K (.pointer (some (b.add (j.toNat * P.cellsOf e))))
      | false => False
    | some (.array n e), some (.pointer (some a)), some (.int _ j) => match Nat.ble 1 (P.cellsOf e) with
      | true => bnd j n (K (.pointer (some (a.add (j.toNat * P.cellsOf e)))))
      | false => False
    | _, _, _ => False
  | .index t x i => match P.underlying t, ev x, i with
    | some (.array n e), some (.agg cs), .const (.int _ j) => match Int.toNat j with
      | j' => match tyOk P e && Nat.ble (j' + 1) n && decide (0 ≤ j), partL P e cs.toList (j' * P.cellsOf e) with
        | true, some v => K v
        | _, _ => False
    | some (.array n e), some (.agg cs), i => match ev i with
      | some (.int _ j) => match isAg P e, Nat.beq (P.cellsOf e) 1 && tyOk P e, Nat.beq cs.toList.length n with
        | false, true, true => bnd j n (xsel K j cs.toList)
        | _, _, _ => False
      | _ => False
    | _, _, _ => False
  | .extract t i => match ev t with
    | some (.tuple vs) => match vs.toList[i]? with
      | some v => K v
      | none => False
    | _ => False
  | .call c => match c.callee, xevs ev c.args.toList with
    | .builtin .len, some [v] => match c.argTypes.toList with
      | t :: _ => xlen P t v K
      | _ => False
    | .builtin .min, some vs => xmin vs K
    | .builtin .max, some vs => xmax vs K
    | _, _ => False
  | _ => False

/-! ### Operations that write, make, call -/

abbrev CT := List Value → Hp → (Value → Hp → Prop) → Prop
abbrev CTab := List (Nat × CT)

abbrev cls : CTab → Nat → CT
  | [], _ => fun _ _ _ => False
  | (g, c) :: r, f => match Nat.beq f g with
    | true => c
    | false => cls r f

/-- What a call of yield asks: the arguments with the function value in front. -/
abbrev YT := List Value → Hp → (Bool → Hp → Prop) → Prop

/-- Under this number a table tells what a call of yield asks. -/
def ykey : Nat := 1000000

def yct (Y : YT) : CT := fun vs h K => Y vs h fun b h => K (.bool b) h

/-- Iterators: what a call of one asks, by what its yield asks. -/
abbrev ITab := List (Nat × (YT → CT))

abbrev itl : ITab → Nat → YT → CT
  | [], _ => fun _ _ _ _ => False
  | (g, c) :: r, f => match Nat.beq f g with
    | true => c
    | false => itl r f

abbrev stores (a : Addr) : List Value → Nat → Hp → (Hp → Prop) → Prop
  | [], _, h, K => K h
  | v :: vs, i, h, K => match v.oneCell with
    | true => stc h (a.add i) v fun h' => stores a vs (i + 1) h' K
    | false => False

abbrev sl (v : Value) (K : Sl → Prop) : Prop := match v with
  | .slice a n c => K ⟨a, n, c⟩
  | _ => False

def elemOf? (P : Program) (t : TypeId) : Option TypeId := match P.underlying t with
  | some (.slice e) => some e
  | _ => none

/-- A call of a function value. -/
abbrev cv (C : CTab) (v : Value) (vs : List Value) (h : Hp) (K : Value → Hp → Prop) : Prop := match v with
  | .func (.func g) fi cap => match Nat.beq g ykey with
    | false => cls C g (fi.toList ++ vs ++ cap.toList) h K
    | true => False
  | .func (.yield l) fi _ => match fi.toList with
    | [] => cls C ykey (.func (.yield l) #[] #[] :: vs) h K
    | _ => False
  | _ => False

abbrev xop (P : Program) (C : CTab) (op : Op) (ev : Operand → Option Value) (h : Hp) (K : Value → Hp → Prop) : Prop :=
  match op with
  | .alloc t => match zeroOf P t with
    | some z => alo h z.cells.toList fun a h' => K (.pointer (some a)) h'
    | none => False
  | .box _ x => match ev x with
    | some v => alo h v.cells.toList fun a h' => K (.pointer (some a)) h'
    | none => False
  | .buildSlice t len parts => match elemOf? P t, xevp ev parts.toList with
    | some e, some ps => match zeroOf P e with
      | some z => match Nat.ble (len * P.cellsOf e) 16777216 && Nat.beq z.cells.toList.length (P.cellsOf e) && Nat.ble 1 (P.cellsOf e),
            xfill (fun i => some (i * P.cellsOf e, P.cellsOf e)) (zrow z.cells.toList len) ps with
        | true, some cs => alo h cs fun a h' => K (.slice (some a) len len) h'
        | _, _ => False
      | none => False
    | _, _ => False
  | .store t a x => match ev a, ev x with
    | some (.pointer (some ad)), some v => match Nat.beq v.cells.toList.length (P.cellsOf t) && Nat.ble 1 (P.cellsOf t) with
      | true => stores ad v.cells.toList 0 h fun h' => K undef h'
      | false => False
    | _, _ => False
  | .makeSlice t n c => match elemOf? P t, ev n, ev c with
    | some e, some (.int _ n), some (.int _ c) => match zeroOf P e, Nat.ble 1 (P.bytesOf e) with
      | some z, true => match Nat.beq z.cells.toList.length (P.cellsOf e) && Nat.ble 1 (P.cellsOf e) with
        | true => mks (P.bytesOf e) z.cells.toList n c h fun s h' => K (.slice s.a s.n s.c) h'
        | false => False
      | _, _ => False
    | _, _, _ => False
  | .call c => match c.callee with
    | .value f => match ev f, xevs ev c.args.toList with
      | some v, some vs => cv C v vs h K
      | _, _ => False
    | .builtin .append => match xevs ev c.args.toList, c.argTypes.toList with
      | some [s, x], [t, u] => match elemOf? P t, Nat.beq t u with
        | some e, true => match zeroOf P e with
          | some z => match Nat.beq z.cells.toList.length (P.cellsOf e) && Nat.ble 1 (P.cellsOf e) && Nat.ble 1 (P.bytesOf e) with
            | true => sl s fun s => sl x fun x => app (P.cellsOf e) (P.bytesOf e) z.cells.toList s x h fun r h' => K (.slice r.a r.n r.c) h'
            | false => False
          | none => False
        | _, _ => False
      | _, _ => False
    | .builtin .copy => match xevs ev c.args.toList, c.argTypes.toList with
      | some [d, s], [t, u] => match elemOf? P t, Nat.beq t u with
        | some e, true => match Nat.ble 1 (P.cellsOf e) && (P.info? e).isSome with
          | true => sl d fun d => sl s fun s => cpy (P.cellsOf e) d s h fun n h' => K (.int .i64 n) h'
          | false => False
        | _, _ => False
      | _, _ => False
    | .builtin .clear => match xevs ev c.args.toList, c.argTypes.toList with
      | some [s], t :: _ => match elemOf? P t with
        | some e => match zeroOf P e with
          | some z => match Nat.beq z.cells.toList.length (P.cellsOf e) && Nat.ble 1 (P.cellsOf e) && z.cells.toList.all (fun v => v.oneCell) with
            | true => sl s fun s => clr (P.cellsOf e) z.cells.toList s h fun h' => K (.tuple #[]) h'
            | false => False
          | none => False
        | none => False
      | _, _ => False
    | _ => xval P op ev h fun v => K v h
  | _ => xval P op ev h fun v => K v h

abbrev guarded (ops : Array Oper) (o : Oper) (e : Env) (X Y : Env → Prop) : Prop :=
  match o.guard with
  | none => X e
  | some (j, want) => match (ops[j]?).bind (·.dst) with
    | none => Y e
    | some d => match e.get d with
      | some (.bool b) => cnd' b
          (match want with | true => X (e.put (some d) (.bool true)) | false => Y (e.put (some d) (.bool true)))
          (match want with | true => Y (e.put (some d) (.bool false)) | false => X (e.put (some d) (.bool false)))
      | some _ => Y e
      | none => False

abbrev xops (P : Program) (C : CTab) (ops : Array Oper) : List Oper → Env → Hp → (Env → Hp → Prop) → Prop
  | [], e, h, K => K e h
  | o :: r, e, h, K => guarded ops o e
      (fun e => xop P C o.op (xev e) h fun v h' => xops P C ops r (e.put o.dst v) h' K)
      (fun e => xops P C ops r (e.put o.dst undef) h K)

/-! ### A region that draws its order -/

def isQ : Op → Bool
  | .move _ | .assign _ | .pick .. | .build .. | .load .. | .nilCheck _ | .binOp .. | .unOp .. | .convert .. | .makeFunc .. | .slice .. | .fieldAddr ..
  | .field .. | .indexAddr .. | .index .. | .extract .. => true
  | .call c => match c.callee with
    | .builtin .len | .builtin .min | .builtin .max => true
    | _ => false
  | _ => false

/-- An operation that may come up, only reads, and may be taken first. -/
def pickQ (ops : Array Oper) (L : Array Bool) : Option Nat :=
  (Region.ready .any ops L).find? fun i => (match ops[i]? with | some o => isQ o.op | none => false) && Region.free .any ops L i

def maskOf (acc : List Nat) (o : Oper) : Nat :=
  o.after.toList.foldl (fun s e => match Region.binds .any e with | true => s ||| 2 ^ e.on ||| acc.getD e.on 0 | false => s) 0

/-- For each operation, as a mask, those that come before it in every order. -/
def ancL : List Oper → List Nat → List Nat
  | [], acc => acc
  | o :: r, acc => ancL r (acc ++ [maskOf acc o])

def effAt (ops : Array Oper) (i : Nat) : Bool := match ops[i]? with
  | some o => !isQ o.op
  | none => false

/-- Whether k comes, in every order, before one of the listed operations that do not only read. -/
def needs (ops : Array Oper) (A : List Nat) (L : Array Bool) (k : Nat) : Bool :=
  (List.range ops.size).any fun e => L.getD e false && effAt ops e && (A.getD e 0).testBit k

abbrev Held := List (Nat × Addr × List Value)

/-- The cells that were read and that an order may read later. -/
abbrev rcs (h : Hp) (a : Addr) : List Value → Nat → Prop → Prop
  | [], _, K => K
  | v :: vs, i, K => h.cell (a.add i) = some v ∧ rcs h a vs (i + 1) K

abbrev rc (h : Hp) : Held → Prop → Prop
  | [], K => K
  | (_, a, vs) :: r, K => rcs h a vs 0 (rc h r K)

def heldBy (i : Nat) (op : Op) (ev : Operand → Option Value) (v : Value) : Held :=
  match op with
  | .load _ a => match ev a with
    | some (.pointer (some ad)) => [(i, ad, v.cells.toList)]
    | _ => []
  | _ => []

/-- Whichever of the listed operations is taken. -/
abbrev effs (f : Nat → Prop) : List Nat → Prop
  | [] => True
  | [i] => f i
  | i :: j :: r => f i ∧ effs f (j :: r)

abbrev xcan (P : Program) (C : CTab) (ops : Array Oper) (A : List Nat) : Nat → Array Bool → Held → Env → Hp → (Env → Hp → Prop) → Prop
  | 0, L, _, e, h, K => match (Region.ready .any ops L).isEmpty with
    | true => K e h
    | false => False
  | n + 1, L, F, e, h, K => match pickQ ops L with
    | some i => match ops[i]? with
      | none => False
      | some o => guarded ops o e
          (fun e => xval P o.op (xev e) h fun v => xcan P C ops A n (L.setIfInBounds i true) (heldBy i o.op (xev e) v ++ F) (e.put o.dst v) h K)
          (fun e => xcan P C ops A n (L.setIfInBounds i true) F (e.put o.dst undef) h K)
    | none => match Region.ready .any ops L with
      | [] => K e h
      | i0 :: rs => effs (fun i => match ops[i]? with
          | none => False
          | some o => guarded ops o e
            (fun e => xop P C o.op (xev e) h fun v h' =>
              rc h' (F.filter fun x => !needs ops A (L.setIfInBounds i true) x.1)
                (xcan P C ops A n (L.setIfInBounds i true) F (e.put o.dst v) h' K))
            (fun e => xcan P C ops A n (L.setIfInBounds i true) F (e.put o.dst undef) h K)) (i0 :: rs)

def noDefer : List Oper → Bool
  | [] => true
  | o :: r => match o.op with
    | .defer _ => false
    | _ => noDefer r

abbrev xregion (P : Program) (C : CTab) (ops : Array Oper) (draw : Bool) (e : Env) (h : Hp) (K : Env → Hp → Prop) : Prop :=
  match draw with
  | false => xops P C ops ops.toList e h K
  | true => match Region.noSelect ops && noDefer ops.toList with
    | true => xcan P C ops (ancL ops.toList []) ops.size (Array.replicate ops.size false) [] e h K
    | false => False

/-! ### Code -/

/-- What stands beside the code: what is carried at joins and loops. -/
inductive An where
  | z
  | sq (a b : An) (L : Option Lv)
  | cd (a b : An)
  | bl (a : An)
  | lp (a : An) (L : Lv)

def An.l : An → An
  | .sq a _ _ | .cd a _ | .bl a | .lp a _ => a
  | .z => .z

def An.r : An → An
  | .sq _ b _ | .cd _ b => b
  | _ => .z

def An.live : An → Option Lv
  | .sq _ _ L => L
  | .lp _ L => some L
  | _ => none

abbrev Post := Exit → Env → Hp → Prop

def dsts : List Oper → List Nat
  | [] => []
  | o :: r => match o.dst with
    | some d => d :: dsts r
    | none => dsts r

/-- The carried slots are among the written ones. -/
def lvIn (L : Lv) (M : List Nat) : Bool := L.all fun x => M.elem x.1

/-- The slots that a piece of code may write. -/
def mods : Code → List Nat
  | .region _ ops _ => dsts ops.toList
  | .seq a b => mods a ++ mods b
  | .cond _ a b => mods a ++ mods b
  | .block _ a => mods a
  | .loop a => mods a
  | .scope a => mods a
  | _ => []

abbrev xthen (next : Env → Hp → Prop) (Q : Post) : Post
  | .normal, e, h => next e h
  | x, e, h => Q x e h

abbrev xin (id : Nat) (Q : Post) : Post
  | .exit j, e, h => match Nat.beq j id with
    | true => Q .normal e h
    | false => Q (.exit j) e h
  | x, e, h => Q x e h

def sub (e : Env) (c : Operand) (b : Bool) : Env := match c with
  | .tmp t => e.put (some t) (.bool b)
  | _ => e

/-! ### Ranges over functions -/

def bsy (r : Loop) : Loop := { r with state := .busy }
def dne (r : Loop) (c : Code) : Loop := { r with state := .done, pending := some c }
def exh (r : Loop) : Loop := { r with state := .exhausted }
def lpIs (h : Hp) (l : Nat) (r : Loop) (K : Prop) : Prop := h.blk l = some (.lp r) ∧ K
def lpSet (h : Hp) (l : Nat) (r : Loop) (K : Hp → Prop) : Prop := K (h.upd l (some (.lp r)))

def ylam (f : Nat → List Value → Hp → (Bool → Hp → Prop) → Prop) : YT := fun vs h K => match vs with
  | .func (.yield l) _ _ :: as => f l as h K
  | _ => False

def projA : (L : Lv) → List Value → (Tup L → Prop) → Prop
  | [], [], K => K ()
  | x :: r, v :: vs, K => x.2.proj (some v) fun y => projA r vs fun z => K (y, z)
  | _, _, _ => False

/-- Yield's arguments, put into the round's frame. -/
def putA (e : Env) : (L : Lv) → Tup L → Env
  | [], _ => e
  | x :: r, s => putA (e.put (some x.1) (x.2.emb s.1)) r s.2

def lvPs : Lv → List Nat → Bool
  | [], [] => true
  | x :: r, p :: ps => Nat.beq x.1 p && lvPs r ps
  | _, _ => false

/-- How a round's end is told. -/
abbrev xround (l : Nat) (r : Loop) (K : Bool → Hp → Prop) : Post
  | .normal, _, h => lpIs h l (bsy r) (lpSet h l r fun h => K true h)
  | .ret, _, h => lpIs h l (bsy r) (lpSet h l (dne r .ret) fun h => K false h)
  | .exit id, _, h => lpIs h l (bsy r) (lpSet h l (dne r (.exit id)) fun h => K false h)
  | _, _, _ => False

def addO (c : Option Nat) (l : List (Option Nat)) : List (Option Nat) := match l.any fun x => match x, c with
    | none, none => true
    | some a, some b => Nat.beq a b
    | _, _ => false with
  | true => l
  | false => c :: l

/-- The ways out of a piece of code: 'ret' (none), or an exit. -/
def outs : Code → List (Option Nat)
  | .exit id => [some id]
  | .ret => [none]
  | .seq a b => (outs a).foldr addO (outs b)
  | .cond _ a b => (outs a).foldr addO (outs b)
  | .block id a => (outs a).filter fun x => match x with
    | some j => !Nat.beq j id
    | none => true
  | .loop a => outs a
  | .scope a => outs a
  | _ => []

/-- Behind the iterator. -/
abbrev xends (l : Nat) (r : Loop) (Q : Post) (e : Env) (h : Hp) : List (Option Nat) → Prop
  | [] => lpIs h l r (lpSet h l (exh r) fun h => Q .normal e h)
  | none :: cs => lpIs h l (dne r .ret) (lpSet h l (exh (dne r .ret)) fun h => Q .ret e h) ∨ xends l r Q e h cs
  | some id :: cs => lpIs h l (dne r (.exit id)) (lpSet h l (exh (dne r (.exit id))) fun h => Q (.exit id) e h) ∨ xends l r Q e h cs

abbrev xcode (P : Program) (C : CTab) : ITab → Code → An → Post → Env → Hp → Prop
  | _, .skip, _, Q, e, h => Q .normal e h
  | _, .label _, _, Q, e, h => Q .normal e h
  | _, .region _ ops draw, _, Q, e, h => xregion P C ops draw e h fun e h => Q .normal e h
  | T, .seq a b, an, Q, e, h => match an.live with
    | none => xcode P C T a an.l (xthen (fun e h => xcode P C T b an.r Q e h) Q) e h
    | some L => match lvIn L (mods a) with
      | true => jn (fun (s : Tup L) h => xcode P C T b an.r Q (mk e (mods a) L s) h)
          fun K => xcode P C T a an.l (xthen (fun e' h' => proj L e' fun s => K s h') Q) e h
      | false => False
  | T, .cond c a b, an, Q, e, h => match xev e c with
    | some (.bool t) => cnd' t (xcode P C T a an.l Q (sub e c true) h) (xcode P C T b an.r Q (sub e c false) h)
    | _ => False
  | T, .block id a, an, Q, e, h => xcode P C T a an.l (xin id Q) e h
  | T, .scope a, an, Q, e, h => xcode P C T a an.l Q e h
  | T, .loop a, an, Q, e, h => match an.live with
    | none => False
    | some L => match lvIn L (mods a) with
      | true => proj L e fun s0 => loopP (fun K (s : Tup L) h =>
          xcode P C T a an.l (xthen (fun e' h' => proj L e' fun s' => K s' h') Q) (mk e (mods a) L s) h) s0 h
      | false => False
  | _, .exit id, _, Q, e, h => Q (.exit id) e h
  | _, .ret, _, Q, e, h => Q .ret e h
  | T, .rangeFunc g ps asn bd, an, Q, e, h => match xev e g, an.live with
    | some (.func (.func gf) fi cap), some L => match lvPs L ps.toList with
      | true => ∀ r : Loop, itl T gf (ylam fun l as h K => projA L as fun s => lpIs h l r
            (xcode P C [] asn an.l (xthen (fun e' h' => lpIs h' l r (lpSet h' l (bsy r) fun h' => xcode P C [] bd an.r (xround l r K) e' h')) (fun _ _ _ => False)) (putA e L s) h))
          (fi.toList ++ [.func (.yield (h.size + 1)) #[] #[]] ++ cap.toList) ((h.pushB none).pushB (some (.lp r))) (fun _ h2 => xends (h.size + 1) r Q e h2 (outs bd))
      | false => False
    | _, _ => False
  | _, _, _, _, _, _ => False

/-- The results, read off the frame. -/
abbrev xresults (P : Program) : List ResultVar → Env → Hp → (List Value → Prop) → Prop
  | [], _, _, K => K []
  | .tmp t :: r, e, h, K => match e.get t with
    | some v => xresults P r e h fun vs => K (v :: vs)
    | none => False
  | .cell a t :: r, e, h, K => match e.get a with
    | some (.pointer (some ad)) => xload P t h ad fun v => xresults P r e h fun vs => K (v :: vs)
    | _ => False

def tup : List Value → Value
  | [v] => v
  | vs => .tuple vs.toArray

abbrev xret (P : Program) (rs : Array ResultVar) (K : Value → Hp → Prop) : Post
  | .normal, e, h => xresults P rs.toList e h fun vs => K (tup vs) h
  | .ret, e, h => xresults P rs.toList e h fun vs => K (tup vs) h
  | _, _, _ => False

abbrev xfn (P : Program) (C : CTab) (T : ITab) (fn : Func) (an : An) (vs : List Value) (h : Hp) (K : Value → Hp → Prop) : Prop :=
  match fn.body with
  | some c => xcode P C T c an (xret P fn.results K) (vs.map some ++ List.replicate (fn.ntmps - vs.length) none) h
  | none => False

/-- The blocks for the deferred calls of rounds lie as they lay. -/
def Kd (w w' : World) : Prop := ∀ D : Nat, w.heap[D]? = some (Obj.deferred (some [])) → w'.heap[D]? = some (Obj.deferred (some []))

structure Bel (B : Nat) (w w' : World) : Prop where
  b : Below B w w'
  d : Kd w w'

theorem Bel.refl (B : Nat) (w : World) : Bel B w w := ⟨Below.refl B w, fun _ h => h⟩
theorem Bel.trans {B : Nat} {a b c : World} (h : Bel B a b) (k : Bel B b c) : Bel B a c := ⟨h.b.trans k.b, fun D hD => k.d D (h.d D hD)⟩
theorem Bel.size {B : Nat} {w w' : World} (h : Bel B w w') : w.heap.size ≤ w'.heap.size := h.b.size
theorem Bel.frame {W w' : World} (h : Bel W.heap.size W w') (may : MemPlace → Prop) : W.keptBut w' may := h.b.frame may
theorem Bel.drew {B : Nat} {a w : World} (h : Bel B a w) : Bel B a w.drew := ⟨h.b.drew, h.d⟩
theorem Bel.alloc {B : Nat} {a w : World} (h : Bel B a w) (hB : B ≤ w.heap.size) (o : Obj) : Bel B a (w.alloc o) :=
  ⟨h.b.alloc hB o, fun D hD => by
    have := h.d D hD
    rw [Below.heap_alloc _ _ _ (Array.getElem?_eq_some_iff.1 this).1]; exact this⟩
theorem Bel.setCell {B : Nat} {a w : World} (h : Bel B a w) {p : Addr} (hp : B ≤ p.block) (u : Value) : Bel B a (w.setCell p u) :=
  ⟨h.b.setCell hp u, fun D hD => by
    have := h.d D hD
    simp only [World.setCell, Array.getElem?_modify, this]
    split
    · simp
    · rfl⟩

/-- What a callee's condition is worth. -/
def OkFn (P : Program) (f : FuncId) (c : CT) : Prop :=
  ∀ (B : Nat) (w : World) (vs : List Value) (K : Value → Hp → Prop), B ≤ w.heap.size → c vs (absW B w) K →
    Calls P f vs.toArray w fun e w' => ∃ v, e = .returned v ∧ Bel B w w' ∧ K v (absW B w')

end Go.Hx
