import Derived.Below
import Derived.Orders
import Derived.Laws.CopyRow
set_option linter.unusedVariables false
set_option linter.unusedSimpArgs false
/- Plain words for abstract states of a Go call (values, memory of the call's own), and a weakest precondition over them. Nothing is claimed here: definitions alone. -/
set_option linter.unusedVariables false
set_option linter.unusedSimpArgs false
set_option linter.unusedSectionVars false
namespace Go.V

/-- A block of the call's own: the slot of the operation that made it, how many it had made before, and a number. -/
abbrev Id := Nat × Nat × Nat

/-- What is no cells: a map whose keys are places (and no more is known), a map with its entries (keys: places, or whole numbers and 0), a walk over a map, a walk over a text. -/
inductive Ob where
  | places
  | map (pk : Bool) (kvs : List ((Int × Int) × Value))
  | mit (mid : Id) (since : Nat) (seen : List Nat) (last : Nat)
  | sit (s : ByteArray) (pos : Nat)

/-- An abstract value. 'ptr', 'slc' lead into memory of the call's own; 'ref', 'row' are read only, with what they lead to. -/
inductive D where
  | junk
  | v (x : Value)
  | ptr (id : Id) (off : Nat)
  | slc (full : Bool) (sz : Nat) (id : Id) (off len : Nat)
  | ref (mine : Bool) (c : D) (off : Nat)
  | row (mine : Bool) (sz : Nat) (c : D) (len : Nat)
  | agg (ds : List D)
  | tup (ds : List D)
  | fn (f : Fn) (first caps : List D)
  | mr (id : Id)
  | obj (x : Ob)
  deriving Inhabited

def Flat : Value → Bool
  | .agg a => a.toList.all Value.oneCell'
  | .tuple _ => false
  | _ => true

/-- Where the blocks of the call's own lie (nowhere: a nil slice), and how many cells are told of each. -/
abbrev Loc := Id → Option (Option Nat × Nat)
def Loc.avoids (loc : Loc) (b : Nat) : Prop := ∀ id n, loc id ≠ some (some b, n)
def noLoc : Loc := fun _ => none

/-- Cells of a block, from 'o' on. -/
def At (w : World) (b o : Nat) (xs : List Value) : Prop :=
  ∃ k e fr, w.heap[b]? = some (.cells k e fr) ∧ o + xs.length ≤ k.size ∧ (k.toList.drop o).take xs.length = xs

/-- The keys of a map are places. -/
def PKeys (es : Array MapEntry) : Prop := ∀ e ∈ es.toList, ∃ x y : Int, e.key = .agg ⟨[.int .i8 x, .int .i8 y]⟩

/-- A key of a map. -/
def keyV (pk : Bool) (k : Int × Int) : Value := bif pk then .agg ⟨[.int .i8 k.1, .int .i8 k.2]⟩ else .int .i64 k.1
def entsF (pk : Bool) : Nat → List ((Int × Int) × Value) → List MapEntry
  | _, [] => []
  | i, (k, v) :: r => ⟨keyV pk k, v, i⟩ :: entsF pk (i + 1) r
def ents (pk : Bool) (kvs : List ((Int × Int) × Value)) : Array MapEntry := ⟨entsF pk 0 kvs⟩
/-- What is told of an object that is no cells. -/
def ORep (w : World) (loc : Loc) : Ob → Nat → Prop
  | .places, b => ∃ es cl, w.heap[b]? = some (.map es cl) ∧ PKeys es
  | .map pk kvs, b => w.heap[b]? = some (.map (ents pk kvs) kvs.length) ∧ (∀ p ∈ kvs, (pk = false → p.1.2 = 0) ∧ Flat p.2 = true)
  | .mit mid since seen last, b => ∃ mb n, loc mid = some (some mb, n) ∧ w.heap[b]? = some (.mapIter (some mb) since ⟨seen⟩ last) ∧ (seen ≠ [] → 0 < last)
  | .sit s pos, b => w.heap[b]? = some (.stringIter s pos)

/-- A row that nobody else writes to, from a block's begin: it may be handed on. -/
def OwnRow (w : World) (base : Nat) (loc : Loc) (a : Option Addr) (cap sz len : Nat) : Prop :=
  (len = 0 ∧ cap = 0) ∨ ∃ b k e, a = some ⟨b, 0, none⟩ ∧ loc.avoids b ∧ base ≤ b ∧ w.heap[b]? = some (.cells k e (0, 0)) ∧ cap * sz ≤ k.size

mutual
def Rep (w : World) (base : Nat) (loc : Loc) : D → Value → Prop
  | .junk, _ => True
  | .v x, y => y = x ∧ Flat x = true
  | .ptr id off, y => ∃ b n, loc id = some (some b, n) ∧ y = .pointer (some ⟨b, off, none⟩)
  | .slc full sz id off len, y => ∃ a cap l n, y = .slice a len cap ∧ len ≤ cap ∧ loc id = some (l, n) ∧ off + len * sz ≤ n ∧ (full = true → off = 0 ∧ len * sz = n) ∧
      match l with
      | none => len = 0 ∧ cap = 0
      | some b => ∃ o, a = some ⟨b, o, none⟩ ∧ (len ≠ 0 → o = off) ∧ (full = true → o = 0 ∧ ∃ k e fr, w.heap[b]? = some (.cells k e fr) ∧ cap * sz ≤ k.size)
  | .ref mine c off, y => ∃ b o xs, y = .pointer (some ⟨b, o + off, none⟩) ∧ At w b o xs ∧ loc.avoids b ∧ (mine = true → base ≤ b) ∧ Rep w base loc c (.agg ⟨xs⟩)
  | .row mine sz c len, y => ∃ a cap xs, y = .slice a len cap ∧ len ≤ cap ∧ Rep w base loc c (.agg ⟨xs⟩) ∧ xs.length = len * sz ∧
      (len * sz = 0 ∨ ∃ b o, a = some ⟨b, o, none⟩ ∧ At w b o xs ∧ loc.avoids b ∧ (mine = true → base ≤ b)) ∧ (mine = true → OwnRow w base loc a cap sz len)
  | .agg ds, y => ∃ vs, y = .agg ⟨vs⟩ ∧ RepL w base loc ds vs ∧ vs.all Value.oneCell' = true
  | .tup ds, y => ∃ vs, y = .tuple ⟨vs⟩ ∧ RepL w base loc ds vs
  | .fn f first caps, y => ∃ a b, y = .func f ⟨a⟩ ⟨b⟩ ∧ RepL w base loc first a ∧ RepL w base loc caps b
  | .mr id, y => ∃ b n, loc id = some (some b, n) ∧ y = .map (some b)
  | .obj _, _ => False
def RepL (w : World) (base : Nat) (loc : Loc) : List D → List Value → Prop
  | [], vs => vs = []
  | d :: ds, vs => ∃ y ys, vs = y :: ys ∧ Rep w base loc d y ∧ RepL w base loc ds ys
end

/-- Tables of the program's that a claim lists: which package-level variables hold which cells. -/
class Globs where
  tab : Nat → Option (List Value)
  flat : ∀ g xs, tab g = some xs → Flat (.agg ⟨xs⟩) = true
  any : Nat → Option (List Value → Prop)
variable [Globs]
def globD (g : Nat) : D := match Globs.tab g with | some xs => .ref false (.v (.agg ⟨xs⟩)) 0 | none => .junk
def Cells (w : World) (b : Nat) (xs : List Value) : Prop := ∃ e fr, w.heap[b]? = some (.cells ⟨xs⟩ e fr)
structure GlobOk (w : World) (loc : Loc) : Prop where
  tab : ∀ g xs, Globs.tab g = some xs → Cells w g xs ∧ loc.avoids g
  any : ∀ g Q, Globs.any g = some Q → ∃ xs, Q xs ∧ Cells w g xs ∧ loc.avoids g

/-- What is known of a type. -/
inductive U where
  | int (k : IntKind) | bool | str | ptr | slice (e : TypeId) | arr (n : Nat) (e : TypeId) | struct (fs : List (Nat × TypeId)) | func | tup | map (k e : TypeId)
structure TI where
  u : U
  size : Nat
  bytes : Nat
  zero : Value
def TI.isAgg (i : TI) : Bool := match i.u with | .arr .. => true | .struct _ => true | _ => false
abbrev Types := TypeId → Option TI
/-- Types of whole numbers. -/
def isNum (t : TypeId) : Bool := t == 2 || t == 3 || t == 5 || t == 6 || t == 12 || t == 21 || t == 22 || t == 27 || t == 168 || t == 189 || t == 192 || t == 205 || t == 206 || t == 209 || t == 210

structure St where
  t : Nat → D
  m : Id → Option D
  c : Nat → Nat

def St.ev (s : St) : Operand → D
  | .tmp i => s.t i
  | .const (.agg _) => .junk
  | .const (.tuple _) => .junk
  | .const x => .v x
  | .global g => globD g
  | .func f => .fn (.func f) [] []

def upd {α : Type} (f : Nat → α) (i : Nat) (x : α) : Nat → α := fun j => bif j == i then x else f j
def updI {α : Type} (f : Id → α) (i : Id) (x : α) : Id → α := fun j => bif (j.1 == i.1 && (j.2.1 == i.2.1 && j.2.2 == i.2.2)) then x else f j

def St.put (s : St) : Option Tmp → D → St
  | none, _ => s
  | some i, d => { s with t := upd s.t i d }

/-- A new block with some content, for the slot 'i'. -/
def St.mk1 (s : St) (i : Nat) (c : D) : St := { s with m := updI s.m (i, s.c i, 0) (some c), c := upd s.c i (s.c i + 1) }
def St.setm (s : St) (id : Id) (c : D) : St := { s with m := updI s.m id (some c) }
def St.kill (s : St) (id : Id) : St := { s with m := updI s.m id none }

/-- A condition that can be reckoned. -/
def asrt (b : Bool) (p : Prop) : Prop := match b with | true => p | false => False
theorem asrt_iff {b : Bool} {p : Prop} : asrt b p ↔ b = true ∧ p := by cases b <;> simp [asrt]

def force (d : D) (K : D → Prop) : Prop :=
  match d with
  | .junk => K .junk
  | .v x => K (.v x)
  | .ptr id off => K (.ptr id off)
  | .slc f sz id off len => K (.slc f sz id off len)
  | .ref m c off => K (.ref m c off)
  | .row m sz c len => K (.row m sz c len)
  | .agg ds => K (.agg ds)
  | .tup ds => K (.tup ds)
  | .fn f a b => K (.fn f a b)
  | .mr id => K (.mr id)
  | .obj x => K (.obj x)
theorem force_eq (d : D) (K : D → Prop) : force d K = K d := by cases d <;> rfl

/-- The cells of a value, as a content. -/
def cont : D → D
  | .v (.agg a) => .v (.agg a)
  | .v x => .v (.agg ⟨[x]⟩)
  | .agg ds => .agg ds
  | d => .agg [d]

def asList : D → Option (List D)
  | .v (.agg a) => some (a.toList.map .v)
  | .agg ds => some ds
  | _ => none

def nth {α : Type} : List α → Nat → Option α
  | [], _ => none
  | x :: _, 0 => some x
  | _ :: l, n + 1 => nth l n
theorem nth_eq {α : Type} : ∀ (l : List α) (i : Nat), nth l i = l[i]?
  | [], i => by simp [nth]
  | x :: l, 0 => by simp [nth]
  | x :: l, n + 1 => by simpa [nth] using nth_eq l n
def optK {α : Type} (o : Option α) (K : α → Prop) : Prop := match o with | some x => K x | none => False
theorem optK_of {α : Type} {o : Option α} {K : α → Prop} {x : α} (h : o = some x) (hk : K x) : optK o K := by rw [h]; exact hk
theorem optK_iff {α : Type} {o : Option α} {K : α → Prop} : optK o K ↔ ∃ x, o = some x ∧ K x := by
  cases o with
  | none => simp [optK]
  | some y => simp [optK]

def getK (c : D) (off : Nat) (K : D → Prop) : Prop :=
  match c with
  | .v (.agg a) => optK (nth a.toList off) fun x => K (.v x)
  | .agg ds => optK (nth ds off) fun d => force d K
  | _ => False
def subK (c : D) (off n : Nat) (K : D → Prop) : Prop :=
  match c with
  | .v (.agg a) => off + n ≤ a.toList.length ∧ K (.v (.agg ⟨(a.toList.drop off).take n⟩))
  | .agg ds => off + n ≤ ds.length ∧ K (.agg ((ds.drop off).take n))
  | _ => False
def loadK (T : Types) (t : TypeId) (c : D) (off : Nat) (K : D → Prop) : Prop :=
  match T t with
  | some i => (match i.isAgg with | true => subK c off i.size K | false => getK c off K)
  | none => False
/-- Some cells of a content replaced. -/
def splice {α : Type} (xs : List α) (off : Nat) (ys : List α) : List α := xs.take off ++ ys ++ xs.drop (off + ys.length)
def putK (c : D) (off : Nat) (d : D) (K : D → Prop) : Prop :=
  match c, d with
  | .v (.agg a), .v (.agg b) => off + b.toList.length ≤ a.toList.length ∧ K (.v (.agg ⟨splice a.toList off b.toList⟩))
  | .v (.agg a), .v x => off < a.toList.length ∧ K (.v (.agg ⟨a.toList.set off x⟩))
  | c, d => (match asList c with
    | some cs => (match d with
      | .agg ds => off + ds.length ≤ cs.length ∧ K (.agg (splice cs off ds))
      | .v (.agg b) => off + b.toList.length ≤ cs.length ∧ K (.agg (splice cs off (b.toList.map .v)))
      | .junk => False
      | .tup _ => False
      | d => off < cs.length ∧ K (.agg (cs.set off d)))
    | none => False)
def storeK (T : Types) (t : TypeId) (c : D) (off : Nat) (d : D) (K : D → Prop) : Prop :=
  match T t with
  | some i => (match i.isAgg, d with
    | true, .v (.agg b) => b.toList.length = i.size ∧ putK c off d K
    | true, .agg ds => ds.length = i.size ∧ putK c off d K
    | false, .v (.agg _) => False
    | false, .agg _ => False
    | false, d => asrt (i.size == 1) (putK c off d K)
    | _, _ => False)
  | none => False

def plainVals : List D → Option (List Value)
  | [] => some []
  | .v x :: r => (match plainVals r with | some xs => some (x :: xs) | none => none)
  | _ :: _ => none

/-- Parts filled into cells: as 'Instr.fill', over abstract cells. -/
def fillD (place : Nat → Option (Nat × Nat)) (cells : List D) : List (Nat × D) → Option (List D)
  | [] => some cells
  | (i, d) :: rest =>
    match place i with
    | none => none
    | some (off, size) =>
      match d with
      | .v (.agg a) => bif a.toList.length == size && Nat.ble (off + size) cells.length then fillD place (splice cells off (a.toList.map .v)) rest else none
      | .agg ds => bif ds.length == size && Nat.ble (off + size) cells.length then fillD place (splice cells off ds) rest else none
      | .junk => none
      | .tup _ => none
      | d => bif size == 1 && Nat.ble (off + 1) cells.length then fillD place (cells.set off d) rest else none
def allV : List D → Option (List Value) := plainVals
/-- As raw cells where all are plain. -/
def mkAgg (ds : List D) : D := match plainVals ds with | some xs => .v (.agg ⟨xs⟩) | none => .agg ds
def evParts (s : St) (parts : Array (Nat × Operand)) : List (Nat × D) := parts.toList.map fun p => (p.1, s.ev p.2)

def intCmpB (op : BinOp) (x y : Int) : Option Bool :=
  match op with
  | .eql => some (x == y) | .neq => some (x != y) | .lss => some (decide (x < y)) | .leq => some (decide (x ≤ y)) | .gtr => some (decide (x > y)) | .geq => some (decide (x ≥ y))
  | _ => none
def bitsI (op : BinOp) (k : IntKind) (x y : Int) : Option Int :=
  match op with
  | .and => some (k.wrap (BitVec.ofInt k.bits x &&& BitVec.ofInt k.bits y).toNat)
  | .or => some (k.wrap (BitVec.ofInt k.bits x ||| BitVec.ofInt k.bits y).toNat)
  | .xor => some (k.wrap (BitVec.ofInt k.bits x ^^^ BitVec.ofInt k.bits y).toNat)
  | .andNot => some (k.wrap (BitVec.ofInt k.bits x &&& ~~~ BitVec.ofInt k.bits y).toNat)
  | _ => none
def strCmpB (op : BinOp) (x y : ByteArray) : Option Bool :=
  match op with
  | .eql => some (x.toList == y.toList) | .neq => some (!(x.toList == y.toList))
  | .lss => some (Op.bytesLess x.toList y.toList) | .leq => some (Op.bytesLess x.toList y.toList || x.toList == y.toList)
  | .gtr => some (!(Op.bytesLess x.toList y.toList || x.toList == y.toList)) | .geq => some (!(Op.bytesLess x.toList y.toList))
  | _ => none

/-- Two aggregates of a type of numbers alone are compared cell by cell. -/
def EqAgg (P : Program) (t : TypeId) (xs ys : List Value) (r : Bool) : Prop :=
  ∀ w, (∀ op x y, (eqGuard op t x y (.agg ⟨xs⟩) (.agg ⟨ys⟩)).run P w = .ok () w) ∧ (Op.equal t (.agg ⟨xs⟩) (.agg ⟨ys⟩)).run P w = .ok r w

def binK (P : Program) (T : Types) (op : BinOp) (t : TypeId) (x y : D) (K : D → Prop) : Prop :=
  match x, y with
  | .v (.int k a), .v (.int k' b) =>
    (match op with
    | .shl => 0 ≤ b ∧ K (.v (.int k (k.wrap (a * 2 ^ (min b.toNat k.bits)))))
    | .shr => 0 ≤ b ∧ K (.v (.int k (a.fdiv (2 ^ (min b.toNat k.bits)))))
    | _ => asrt (decide (k = k'))
      (match op with
      | .add => K (.v (.int k (k.wrap (a + b))))
      | .sub => K (.v (.int k (k.wrap (a - b))))
      | .mul => K (.v (.int k (k.wrap (a * b))))
      | .quo => b ≠ 0 ∧ K (.v (.int k (k.wrap (a.tdiv b))))
      | .rem => b ≠ 0 ∧ K (.v (.int k (a.tmod b)))
      | .and => K (.v (.int k (k.wrap (BitVec.ofInt k.bits a &&& BitVec.ofInt k.bits b).toNat)))
      | .or => K (.v (.int k (k.wrap (BitVec.ofInt k.bits a ||| BitVec.ofInt k.bits b).toNat)))
      | .xor => K (.v (.int k (k.wrap (BitVec.ofInt k.bits a ^^^ BitVec.ofInt k.bits b).toNat)))
      | .andNot => K (.v (.int k (k.wrap (BitVec.ofInt k.bits a &&& ~~~ BitVec.ofInt k.bits b).toNat)))
      | _ => (match intCmpB op a b with | some r => K (.v (.bool r)) | none => False)))
  | .v (.string a), .v (.string b) =>
    (match op with
    | .add => ((a.size + b.size : Nat) : Int) ≤ IntKind.i64.max ∧ K (.v (.string (a ++ b)))
    | _ => (match strCmpB op a b with | some r => K (.v (.bool r)) | none => False))
  | .v (.agg a), .v (.agg b) =>
    (match op with
    | .eql => ∃ r, EqAgg P t a.toList b.toList r ∧ K (.v (.bool r))
    | .neq => ∃ r, EqAgg P t a.toList b.toList r ∧ K (.v (.bool (!r)))
    | _ => False)
  | .agg a, .agg b =>
    (match op with
    | .eql => ∃ xs ys r, plainVals a = some xs ∧ plainVals b = some ys ∧ EqAgg P t xs ys r ∧ K (.v (.bool r))
    | .neq => ∃ xs ys r, plainVals a = some xs ∧ plainVals b = some ys ∧ EqAgg P t xs ys r ∧ K (.v (.bool (!r)))
    | _ => False)
  | .v (.bool a), .v (.bool b) =>
    (match T t, op with
    | some ⟨.bool, _, _, _⟩, .eql => K (.v (.bool (a == b)))
    | some ⟨.bool, _, _, _⟩, .neq => K (.v (.bool (!(a == b))))
    | _, _ => False)
  | .v (.slice a _ _), .v (.slice none 0 0) =>
    (match T t, op with
    | some ⟨.slice _, _, _, _⟩, .eql => K (.v (.bool a.isNone))
    | _, _ => False)
  | .row _ sz _ len, .v (.slice none 0 0) =>
    (match T t, op with
    | some ⟨.slice _, _, _, _⟩, .eql => len * sz ≠ 0 ∧ K (.v (.bool false))
    | _, _ => False)
  | _, _ => False

def unK (op : UnOp) (x : D) (K : D → Prop) : Prop :=
  match op, x with
  | .not, .v (.bool b) => K (.v (.bool (!b)))
  | .neg, .v (.int k n) => K (.v (.int k (k.wrap (0 - n))))
  | .xor, .v (.int k n) => K (.v (.int k (k.wrap (BitVec.ofInt k.bits (if k.signed then -1 else k.max) ^^^ BitVec.ofInt k.bits n).toNat)))
  | _, _ => False

def byteVals (s : ByteArray) : List Value := s.data.toList.map fun b => .int .u8 b.toNat
def isBytes (xs : List Value) (s : ByteArray) : Prop := xs = byteVals s

def lenD : D → Option Nat
  | .slc _ _ _ _ len => some len
  | .row _ _ _ len => some len
  | .v (.slice none 0 0) => some 0
  | _ => none

def szOf : D → Option Nat
  | .slc _ sz _ _ _ => some sz
  | .row _ sz _ _ => some sz
  | .v (.slice none 0 0) => some 1
  | _ => none
def widC : D → Option Nat
  | .v (.agg a) => some a.toList.length
  | .agg ds => some ds.length
  | _ => none
def contOf (s : St) : D → Option (Bool × D)      -- a slice's cells, if it can be read; 'mine'
  | .slc _ sz id off len => (match s.m id with
    | some (.v (.agg a)) => some (true, .v (.agg ⟨(a.toList.drop off).take (len * sz)⟩))
    | some (.agg ds) => some (true, .agg ((ds.drop off).take (len * sz)))
    | _ => none)
  | .row m _ c _ => some (m, c)
  | .v (.slice none 0 0) => some (true, .v (.agg ⟨[]⟩))
  | _ => none

def convK (T : Types) (s : St) (src dst : TypeId) (x : D) (K : D → Prop) : Prop :=
  match T src, T dst, x with
  | some _, some ⟨.int k, _, _, _⟩, .v (.int _ n) => K (.v (.int k (k.wrap n)))
  | some _, some ⟨.str, _, _, _⟩, .v (.string b) => K (.v (.string b))
  | some _, some ⟨.str, _, _, _⟩, .v (.int _ n) => K (.v (.string (Utf8.encode n)))
  | some _, some ⟨.slice e, _, _, _⟩, .v (.string b) =>
    (match T e with
    | some ⟨.int .u8, _, _, _⟩ => K (.row false 1 (.v (.agg ⟨byteVals b⟩)) b.size)
    | _ => False)
  | some ⟨.slice e, _, _, _⟩, some ⟨.str, _, _, _⟩, x =>
    (match T e, contOf s x, lenD x with
    | some ⟨.int .u8, sz, _, _⟩, some (_, .v (.agg a)), some n => ∃ b : ByteArray, (sz = 1 ∧ n = b.size ∧ a.toList = byteVals b ∧ szOf x = some 1) ∧ K (.v (.string b))
    | _, _, _ => False)
  | _, _, _ => False

def asI : D → Option Int
  | .v (.int _ n) => some n
  | _ => none
def optI (s : St) : Option Operand → Option (Option Int)
  | none => some none
  | some x => (match s.ev x with | .v (.int _ n) => some (some n) | _ => none)

def sliceK (T : Types) (s : St) (t : TypeId) (x : D) (lo hi mx : Option Operand) (K : D → Prop) : Prop :=
  match T t, x, optI s lo, optI s hi, mx with
  | some ⟨.str, _, _, _⟩, .v (.string b), some l, some h, none =>
      (0 ≤ l.getD 0 ∧ l.getD 0 ≤ h.getD b.size ∧ h.getD b.size ≤ b.size) ∧ K (.v (.string (b.extract (l.getD 0).toNat (h.getD b.size).toNat)))
  | some ⟨.slice e, _, _, _⟩, .slc _ sz id off len, some l, some h, none =>
    (match T e with
    | some i => asrt (sz == i.size) ((0 ≤ l.getD 0 ∧ l.getD 0 ≤ h.getD len ∧ h.getD len ≤ len) ∧ K (.slc false sz id (off + (l.getD 0).toNat * sz) ((h.getD len).toNat - (l.getD 0).toNat)))
    | none => False)
  | some ⟨.slice e, _, _, _⟩, .row m sz c len, some l, some h, none =>
    (match T e with
    | some i => asrt (sz == i.size) ((0 ≤ l.getD 0 ∧ l.getD 0 ≤ h.getD len ∧ h.getD len ≤ len) ∧
      subK c ((l.getD 0).toNat * sz) (((h.getD len).toNat - (l.getD 0).toNat) * sz) fun c' => K (.row false sz c' ((h.getD len).toNat - (l.getD 0).toNat)))
    | none => False)
  | some ⟨.arr n e, _, _, _⟩, .ptr id off, some l, some h, none =>
    (match T e, s.m id with
    | some i, some c => (0 ≤ l.getD 0 ∧ l.getD 0 ≤ h.getD n ∧ h.getD n ≤ n ∧ off + n * i.size ≤ (widC c).getD 0) ∧ K (.slc false i.size id (off + (l.getD 0).toNat * i.size) ((h.getD n).toNat - (l.getD 0).toNat))
    | _, _ => False)
  | some ⟨.arr n e, _, _, _⟩, .ref m c off, some l, some h, none =>
    (match T e with
    | some i => (0 ≤ l.getD 0 ∧ l.getD 0 ≤ h.getD n ∧ h.getD n ≤ n) ∧
      subK c (off + (l.getD 0).toNat * i.size) (((h.getD n).toNat - (l.getD 0).toNat) * i.size) fun c' => K (.row false i.size c' ((h.getD n).toNat - (l.getD 0).toNat))
    | none => False)
  | _, _, _, _, _ => False

def fieldAddrK (T : Types) (t : TypeId) (x : D) (f : Nat) (K : D → Prop) : Prop :=
  match T t with
  | some ⟨.struct fs, _, _, _⟩ => (match fs[f]? with
    | some (fo, ft) => (match T ft with
      | some i => (match i.size with
        | 0 => False
        | _ + 1 => (match x with
          | .ptr id off => K (.ptr id (off + fo))
          | .ref m c off => K (.ref m c (off + fo))
          | _ => False))
      | none => False)
    | none => False)
  | _ => False

def partK (T : Types) (t : TypeId) (c : D) (off : Nat) (K : D → Prop) : Prop := loadK T t c off K

/-- A part whose cells are plain, told as raw cells. -/
def flatK (T : Types) (t : TypeId) (ds : List D) (off : Nat) (K : D → Prop) : Prop :=
  match T t with
  | some i => ∃ l, (i.isAgg = true ∧ off + i.size ≤ ds.length ∧ plainVals ((ds.drop off).take i.size) = some l) ∧ K (.v (.agg ⟨l⟩))
  | none => False
def fieldK (T : Types) (t : TypeId) (x : D) (f : Nat) (K : D → Prop) : Prop :=
  match T t with
  | some ⟨.struct fs, _, _, _⟩ => (match fs[f]? with
    | some (fo, ft) => (match x with
      | .agg ds => partK T ft (.agg ds) fo K ∨ flatK T ft ds fo K
      | x => partK T ft x fo K)
    | none => False)
  | _ => False

def indexAddrK (T : Types) (t : TypeId) (x i : D) (K : D → Prop) : Prop :=
  match i with
  | .v (.int _ n) =>
    (match T t with
    | some ⟨.arr len e, _, _, _⟩ => (match T e with
      | some ti => (0 ≤ n ∧ n < len) ∧ (match x with
        | .ptr id off => K (.ptr id (off + n.toNat * ti.size))
        | .ref m c off => K (.ref m c (off + n.toNat * ti.size))
        | _ => False)
      | none => False)
    | some ⟨.slice e, _, _, _⟩ => (match T e with
      | some ti => (match x with
        | .slc _ sz id off len => asrt (sz == ti.size) ((0 ≤ n ∧ n < len) ∧ K (.ptr id (off + n.toNat * ti.size)))
        | .row m sz c len => asrt (sz == ti.size && sz != 0) ((0 ≤ n ∧ n < len) ∧ K (.ref m c (n.toNat * ti.size)))
        | _ => False)
      | none => False)
    | _ => False)
  | _ => False

def byteAt (s : ByteArray) (n : Nat) : Int := (s.data.toList.getD n 0).toNat
def indexK (T : Types) (t : TypeId) (x i : D) (K : D → Prop) : Prop :=
  match i with
  | .v (.int _ n) =>
    (match T t with
    | some ⟨.arr len e, _, _, _⟩ => (match T e with
      | some ti => (0 ≤ n ∧ n < len) ∧ partK T e x (n.toNat * ti.size) K
      | none => False)
    | some ⟨.str, _, _, _⟩ => (match x with
      | .v (.string b) => (0 ≤ n ∧ n < b.size) ∧ K (.v (.int .u8 (byteAt b n.toNat)))
      | _ => False)
    | _ => False)
  | _ => False

def rep {α : Type} (n : Nat) (xs : List α) : List α := (List.replicate n xs).flatten

def mapO {α β : Type} (f : α → Option β) : List α → Option (List β)
  | [] => some []
  | x :: r => (match f x with
    | some y => (match mapO f r with | some ys => some (y :: ys) | none => none)
    | none => none)

/-- Ids from here on stand for blocks that were lent. -/
def lentKey : Nat := 1000000
def idIn (id : Id) (bad : List Id) : Bool := bad.any fun j => j.1 == id.1 && (j.2.1 == id.2.1 && j.2.2 == id.2.2)

/-- Pure data out of a value: what leads into memory of the call's own is told with its content. 'out': for a result (all that it leads to is new, and none of it is one of 'bad'); else for an argument. -/
def deep (out : Bool) (bad : List Id) (m : Id → Option D) : Nat → D → Option D
  | 0, _ => none
  | n + 1, d =>
    match d with
    | .junk => some .junk
    | .mr _ => some .junk
    | .obj _ => none
    | .v x => some (.v x)
    | .ptr id off => bif out && (idIn id bad || Nat.ble lentKey id.1) then none else (match m id with
      | some c => (match deep out bad m n c with | some c' => some (.ref out c' off) | none => none)
      | none => none)
    | .slc full sz id off len => bif out && (!full || (idIn id bad || Nat.ble lentKey id.1)) then none else (match m id with
      | some (.v (.agg a)) => some (.row out sz (.v (.agg ⟨(a.toList.drop off).take (len * sz)⟩)) len)
      | some (.agg ds) => (match mapO (deep out bad m n) ((ds.drop off).take (len * sz)) with | some ds' => some (.row out sz (.agg ds') len) | none => none)
      | _ => none)
    | .ref mi c off => bif out && !mi then none else (match deep out bad m n c with | some c' => some (.ref out c' off) | none => none)
    | .row mi sz c len => bif out && !mi then none else (match deep out bad m n c with | some c' => some (.row out sz c' len) | none => none)
    | .agg ds => (match mapO (deep out bad m n) ds with | some ds' => some (.agg ds') | none => none)
    | .tup ds => (match mapO (deep out bad m n) ds with | some ds' => some (.tup ds') | none => none)
    | .fn f a b => (match mapO (deep out bad m n) a with
      | some a' => (match mapO (deep out bad m n) b with | some b' => some (.fn f a' b') | none => none)
      | none => none)

/-- A result's rows at its top become slices of the caller's own. -/
def impD (i c j : Nat) : D → D
  | .row _ sz _ len => .slc true sz (i, c, j) 0 len
  | d => d
def impL (i c : Nat) : Nat → List D → List D
  | _, [] => []
  | j, d :: ds => impD i c j d :: impL i c (j + 1) ds
def rowC : D → Option D
  | .row _ _ c _ => some c
  | _ => none
def impC (ds : List D) (j : Nat) : Option D := match ds[j]? with | some d => rowC d | none => none
/-- The parts of a result. -/
def tops : D → List D
  | .tup ds => ds
  | d => [d]
def impV (i c : Nat) : D → D
  | .tup ds => .tup (impL i c 0 ds)
  | d => impD i c 0 d

/-- What an operation leaves: a value, or a value and new blocks. -/
inductive Eff where
  | val (d : D)
  | new (d : D) (f : Nat → Option D)
def updR (m : Id → Option D) (i c : Nat) (f : Nat → Option D) : Id → Option D := fun id => bif (id.1 == i && id.2.1 == c) then f id.2.2 else m id
def one (c : D) : Nat → Option D
  | 0 => some c
  | _ + 1 => none
def St.eff (s : St) : Option Tmp → Eff → St
  | none, _ => s
  | some i, .val d => { s with t := upd s.t i d }
  | some i, .new d f => { t := upd s.t i d, m := updR s.m i (s.c i) f, c := upd s.c i (s.c i + 1) }

def St.set (s : St) (i : Nat) (d : D) : St := { s with t := upd s.t i d }
def St.new (s : St) (i : Nat) (d : D) (f : Nat → Option D) : St := { t := upd s.t i d, m := updR s.m i (s.c i) f, c := upd s.c i (s.c i + 1) }
/-- What follows an effect. -/
def effK (s : St) (dst : Option Tmp) (e : Eff) (K : St → Prop) : Prop :=
  match dst, e with
  | none, _ => K s
  | some i, .val d => K (s.set i d)
  | some i, .new d f => K (s.new i d f)
theorem effK_eq (s : St) (dst : Option Tmp) (e : Eff) (K : St → Prop) : effK s dst e K = K (s.eff dst e) := by
  cases dst <;> cases e <;> rfl
theorem eff_junk (s : St) (dst : Option Tmp) (d : D) : s.eff dst (.val d) = s.put dst d := by cases dst <;> rfl

def hasRow : List D → Bool
  | [] => false
  | .row .. :: _ => true
  | _ :: r => hasRow r
def Eff.ofRes (i c : Nat) (res : D) : Eff := bif hasRow (tops res) then .new (impV i c res) (impC (tops res)) else .val res

/-- A block of the call's own holds some cells at its head, and may be written. -/
def BlkAt (w : World) (l : Option Nat) (xs : List Value) : Prop :=
  match l with
  | none => xs = []
  | some b => ∃ k e, w.heap[b]? = some (.cells k e (0, 0)) ∧ k.toList.take xs.length = xs ∧ xs.length ≤ k.size

mutual
/-- Data that lead to nothing but what is new. -/
def clean : D → Bool
  | .junk => true
  | .mr _ => false
  | .obj _ => false
  | .v _ => true
  | .ptr .. => false
  | .slc .. => false
  | .ref mi c _ => mi && clean c
  | .row mi _ c _ => mi && clean c
  | .agg ds => cleanL ds
  | .tup ds => cleanL ds
  | .fn _ a b => cleanL a && cleanL b
def cleanL : List D → Bool
  | [] => true
  | d :: ds => clean d && cleanL ds
end

/-- Blocks of a result at its top: each is new, none is met twice. -/
structure ResRep (w : World) (B : Nat) (res : D) (y : Value) (loc : Loc) : Prop where
  new : cleanL (tops res) = true
  rep : Rep w B loc (impV 0 0 res) y
  range : ∀ id b n, loc id = some (some b, n) → B ≤ b ∧ b < w.heap.size
  key : ∀ id l, loc id = some l → id.1 = 0 ∧ id.2.1 = 0 ∧ (impC (tops res) id.2.2).isSome = true
  inj : ∀ id id' b n n', loc id = some (some b, n) → loc id' = some (some b, n') → id = id'
  mem : ∀ j c, impC (tops res) j = some c → ∃ l xs, loc (0, 0, j) = some (l, xs.length) ∧ Rep w B loc c (.agg ⟨xs⟩) ∧ BlkAt w l xs

/-- THE CONTRACT: from data to data; what was there before the call is as it was; what is handed back is new. -/
def Sat (P : Program) (g : FuncId) (args : List D) (res : D) : Prop :=
  (∃ fn c, P.funcs[g]? = some fn ∧ fn.body = some c ∧ (fn.name == "runtime.NumGoroutine") = false) ∧ ∀ w vs, GlobOk w noLoc → RepL w w.heap.size noLoc args vs → Calls P g ⟨vs⟩ w fun e w' =>
    ∃ y loc, e = .returned y ∧ RowKit.Below w.heap.size w w' ∧ ResRep w' w.heap.size res y loc
def depth : Nat := 12

/-! ### Calls that write to blocks that were lent -/

def isCells : Obj → Bool | .cells .. => true | _ => false
/-- What is told of a block: a content, or an object that is no cells. -/
def Cont (w : World) (base : Nat) (loc : Loc) (c : D) (l : Option Nat) (xs : List Value) : Prop :=
  (Rep w base loc c (.agg ⟨xs⟩) ∧ BlkAt w l xs) ∨ ∃ x b, c = .obj x ∧ l = some b ∧ xs = [] ∧ ORep w loc x b
/-- Ids from here on stand for blocks that the caller keeps to itself. -/
def guardKey : Nat := 3000000
/-- Of what was there at the begin nothing has changed, but for some blocks. -/
structure Same (ch : Nat → Prop) (w w' : World) : Prop where
  os : w'.os = w.os
  tape : w'.tape = w.tape
  output : w'.output = w.output
  size : w.heap.size ≤ w'.heap.size
  block : ∀ k, k < w.heap.size → ¬ ch k → w'.heap[k]? = w.heap[k]?
  grow : ∀ (b : Nat) (k : Array Value) (e : TypeId) (fr : Nat × Nat), w.heap[b]? = some (.cells k e fr) → ∃ k' e' fr', w'.heap[b]? = some (.cells k' e' fr') ∧ k.size ≤ k'.size
/-- The blocks that were lent. -/
def chOf (l0 : Loc) (b : Nat) : Prop := ∃ id n, lentKey ≤ id.1 ∧ id.1 < guardKey ∧ l0 id = some (some b, n)
def lentId (j : Nat) : Id := (lentKey + j, 0, 0)
/-- The contents of lent blocks. -/
def lentM (ms : List D) : Id → Option D := fun id => bif Nat.ble lentKey id.1 && (Nat.blt id.1 guardKey && (id.2.1 == 0 && id.2.2 == 0)) then nth ms (id.1 - lentKey) else none
/-- The contents behind a call: of lent blocks (none: given up), of new ones. -/
def outM (ms : List (Option D)) (news : List D) : Id → Option D := fun id =>
  bif Nat.ble lentKey id.1 then (bif Nat.blt id.1 guardKey && (id.2.1 == 0 && id.2.2 == 0) then (nth ms (id.1 - lentKey)).join else none)
  else (bif id.1 == 0 && id.2.1 == 0 then nth news id.2.2 else none)
structure Lent (w : World) (bs : Nat) (l0 : Loc) (ms : List D) : Prop where
  dom : ∀ id l, l0 id = some l → lentKey ≤ id.1
  mem : ∀ id c, lentM ms id = some c → ∃ l xs, l0 id = some (l, xs.length) ∧ Rep w bs l0 c (.agg ⟨xs⟩) ∧ BlkAt w l xs
  range : ∀ id b n, l0 id = some (some b, n) → b < w.heap.size
  inj : ∀ id id' c c' b n n', lentM ms id = some c → lentM ms id' = some c' → l0 id = some (some b, n) → l0 id' = some (some b, n') → id = id'
structure Back (w w' : World) (bs : Nat) (l0 : Loc) (res : D) (ms : List (Option D)) (news : List D) (y : Value) (loc : Loc) : Prop where
  same : Same (chOf l0) w w'
  rep : Rep w' bs loc res y
  keep : ∀ id, lentKey ≤ id.1 → loc id = l0 id
  key : ∀ id l, loc id = some l → id.1 < lentKey → id.1 = 0 ∧ id.2.1 = 0 ∧ id.2.2 < news.length
  range : ∀ id b n, loc id = some (some b, n) → id.1 < lentKey → (w.heap.size ≤ b ∨ chOf l0 b) ∧ b < w'.heap.size
  mem : ∀ id c, outM ms news id = some c → ∃ l xs, loc id = some (l, xs.length) ∧ Rep w' bs loc c (.agg ⟨xs⟩) ∧ BlkAt w' l xs
  inj : ∀ id id' c c' b n n', outM ms news id = some c → outM ms news id' = some c' → loc id = some (some b, n) → loc id' = some (some b, n') → id = id'
/-- THE CONTRACT OF A FUNCTION THAT WRITES TO BLOCKS THAT ARE LENT TO IT: their contents before and behind the call, the result, new blocks. -/
def SatB (low : Bool) (P : Program) (g : FuncId) (args : List D) (ms : List D) (res : D) (ms' : List (Option D)) (news : List D) : Prop :=
  (∃ fn c, P.funcs[g]? = some fn ∧ fn.body = some c ∧ (fn.name == "runtime.NumGoroutine") = false) ∧ ∀ w vs l0 bs, bs ≤ w.heap.size → (low = false → bs = w.heap.size) → GlobOk w l0 → Lent w bs l0 ms → RepL w bs l0 args vs → Calls P g ⟨vs⟩ w fun e w' =>
    ∃ y loc, e = .returned y ∧ Back w w' bs l0 res ms' news y loc
/-- As told of values none of which is known to be the caller's own. -/
def SatM (P : Program) (g : FuncId) (args : List D) (ms : List D) (res : D) (ms' : List (Option D)) (news : List D) : Prop := SatB false P g args ms res ms' news

/-- A value with other names for its blocks. 'own': what is told to be new stays so. -/
def mapD (own : Bool) (f : Id → Option Id) : Nat → D → Option D
  | 0, _ => none
  | n + 1, d =>
    match d with
    | .junk => some .junk
    | .mr _ => some .junk
    | .obj _ => none
    | .v x => some (.v x)
    | .ptr id off => (match f id with | some j => some (.ptr j off) | none => none)
    | .slc full sz id off len => (match f id with | some j => some (.slc full sz j off len) | none => none)
    | .ref m c off => (match mapD own f n c with | some c' => some (.ref (own && m) c' off) | none => none)
    | .row m sz c len => (match mapD own f n c with | some c' => some (.row (own && m) sz c' len) | none => none)
    | .agg ds => (match mapO (mapD own f n) ds with | some ds' => some (.agg ds') | none => none)
    | .tup ds => (match mapO (mapD own f n) ds with | some ds' => some (.tup ds') | none => none)
    | .fn g a b => (match mapO (mapD own f n) a with
      | some a' => (match mapO (mapD own f n) b with | some b' => some (.fn g a' b') | none => none)
      | none => none)
def idEq (a b : Id) : Bool := a.1 == b.1 && (a.2.1 == b.2.1 && a.2.2 == b.2.2)
def findId : List Id → Id → Nat → Option Nat
  | [], _, _ => none
  | a :: r, id, k => bif idEq a id then some k else findId r id (k + 1)
/-- The names for a call: the k-th of the ids that are lent. -/
def lendF (lend : List Id) (id : Id) : Option Id := match findId lend id 0 with | some k => some (lentId k) | none => none
/-- The names behind a call. -/
def backF (lend : List Id) (i c : Nat) (id : Id) : Option Id :=
  bif Nat.ble lentKey id.1 then (bif Nat.blt id.1 guardKey && (id.2.1 == 0 && id.2.2 == 0) then nth lend (id.1 - lentKey) else none)
  else (bif id.1 == 0 && id.2.1 == 0 then some (i, c, id.2.2) else none)
def backL (lend : List Id) (id : Id) : Option Id := bif Nat.ble lentKey id.1 then backF lend 0 0 id else none
def lendC (own : Bool) (m : Id → Option D) (f : Id → Option Id) (id : Id) : Option D := match m id with | some c => mapD own f depth c | none => none
def backC (f : Id → Option Id) : Option D → Option (Option D)
  | none => some none
  | some c => (match mapD true f depth c with | some c' => some (some c') | none => none)
/-- The memory behind a call. -/
def setL (m : Id → Option D) : List Id → List (Option D) → Id → Option D
  | id :: r, c :: cs => setL (fun j => bif idEq id j then c else m j) r cs
  | _, _ => m
def distinctIds : List Id → Bool
  | [] => true
  | i :: r => !(r.any (idEq i)) && distinctIds r
def St.callM (s : St) (i : Nat) (lend : List Id) (res : D) (ms : List (Option D)) (news : List D) : St :=
  { t := upd s.t i res, m := updR (setL s.m lend ms) i (s.c i) (fun j => nth news j), c := upd s.c i (s.c i + 1) }
def callMK (own : Bool) (P : Program) (s : St) (f : D) (args : List D) (dst : Option Tmp) (K : St → Prop) : Prop :=
  match f, dst with
  | .fn (.func g) first caps, some i => ∃ (lend : List Id) (dargs ms : List D) (res : D) (ms' : List (Option D)) (news : List D) (res2 : D) (ms2 : List (Option D)) (news2 : List D),
      Nat.ble lend.length 1000 = true ∧ distinctIds lend = true ∧ mapO (mapD own (lendF lend) depth) (first ++ (args ++ caps)) = some dargs ∧ mapO (lendC own s.m (lendF lend)) lend = some ms ∧
      SatB own P g dargs ms res ms' news ∧
      mapD true (backF lend i (s.c i)) depth res = some res2 ∧ mapO (backC (backF lend i (s.c i))) ms' = some ms2 ∧ mapO (mapD true (backF lend i (s.c i)) depth) news = some news2 ∧ ms2.length = lend.length ∧
      K (s.callM i lend res2 ms2 news2)
  | .fn (.func g) first caps, none => ∃ (lend : List Id) (dargs ms : List D) (res : D) (ms' ms2 : List (Option D)),
      Nat.ble lend.length 1000 = true ∧ distinctIds lend = true ∧ mapO (mapD own (lendF lend) depth) (first ++ (args ++ caps)) = some dargs ∧ mapO (lendC own s.m (lendF lend)) lend = some ms ∧
      SatB own P g dargs ms res ms' [] ∧ mapO (backC (backL lend)) ms' = some ms2 ∧ ms2.length = lend.length ∧ K { s with m := setL s.m lend ms2 }
  | _, _ => False
/-- The functions of this program that write to what is lent to them. -/
def isMut (g : FuncId) : Bool := g == 17 || g == 18 || g == 46 || g == 38
/-- Those of them that may hand on the caller's own rows. -/
def isLow (g : FuncId) : Bool := false
/-- Functions whose calls may be told either way. -/
def isBoth (g : FuncId) : Bool := false

def builtinK (T : Types) (b : Builtin) (ts : Array TypeId) (args : List D) (K : D → Prop) : Prop :=
  match b, ts.toList, args with
  | .len, t :: _, [x] =>
    (match T t, x with
    | some ⟨.str, _, _, _⟩, .v (.string s) => K (.v (.int .i64 s.size))
    | some ⟨.arr n _, _, _, _⟩, _ => K (.v (.int .i64 n))
    | some ⟨.slice _, _, _, _⟩, x => (match lenD x with | some n => K (.v (.int .i64 n)) | none => False)
    | _, _ => False)
  | .max, _, [.v (.int k a), .v (.int _ b)] => K (.v (.int k (if b > a then b else a)))
  | .min, _, [.v (.int k a), .v (.int _ b)] => K (.v (.int k (if b < a then b else a)))
  | _, _, _ => False

def callK (P : Program) (s : St) (f : D) (args : List D) (dst : Option Tmp) (K : Eff → Prop) : Prop :=
  match f with
  | .fn (.func g) first caps => ∃ dargs res, mapO (deep false [] s.m depth) (first ++ (args ++ caps)) = some dargs ∧ Sat P g dargs res ∧
      (match dst with
      | some i => K (Eff.ofRes i (s.c i) res)
      | none => K (.val .junk))
  | _ => False

/-- Kinds of keys: places, whole numbers. -/
def pkOf (T : Types) (k : TypeId) : Option Bool :=
  match T k with
  | some ⟨.struct _, _, _, _⟩ => some true
  | some ⟨.int .i64, _, _, _⟩ => some false
  | _ => none
def sameKey : Value → Value → Bool
  | .int _ a, .int _ b => a == b
  | .agg ⟨[.int _ a, .int _ b]⟩, .agg ⟨[.int _ c, .int _ d]⟩ => a == c && b == d
  | _, _ => false
/-- The first entry with a key. -/
def findE (k : Value) : List MapEntry → Nat → Option (Nat × Value)
  | [], _ => none
  | e :: es, i => bif sameKey k e.key then some (i, e.val) else findE k es (i + 1)
/-- What comes to be known of keys. -/
def KeyOk (P : Program) (t : TypeId) (pk : Bool) : Prop :=
  ∃ kt et, P.underlying t = some (.map kt et) ∧ (∀ (w : World) (b : Bool) (k : Int × Int), (Instr.checkKey b 10000 kt (keyV pk k)).run P w = .ok () w) ∧
    ∀ (w : World) (k : Int × Int) (es : List MapEntry), (∀ e ∈ es, ∃ k', e.key = keyV pk k') → (Instr.findKey kt (keyV pk k) es).run P w = .ok (findE (keyV pk k) es 0) w
def keyEq (a b : Int × Int) : Bool := a.1 == b.1 && a.2 == b.2
/-- Where a key stands first (behind all, if it is not there). -/
def idxK (key : Int × Int) : List ((Int × Int) × Value) → Nat
  | [] => 0
  | p :: r => bif keyEq key p.1 then 0 else idxK key r + 1
def findK (key : Int × Int) : List ((Int × Int) × Value) → Option Value
  | [] => none
  | p :: r => bif keyEq key p.1 then some p.2 else findK key r
/-- An entry for a key, if there is none. -/
def entK (key : Int × Int) (z : Value) : List ((Int × Int) × Value) → List ((Int × Int) × Value)
  | [] => [(key, z)]
  | p :: r => bif keyEq key p.1 then p :: r else p :: entK key z r
/-- The value of an entry replaced. -/
def putE : Nat → Value → List ((Int × Int) × Value) → List ((Int × Int) × Value)
  | _, _, [] => []
  | 0, x, p :: r => (p.1, x) :: r
  | i + 1, x, p :: r => p :: putE i x r
def setK (key : Int × Int) (x : Value) : List ((Int × Int) × Value) → List ((Int × Int) × Value)
  | [] => [(key, x)]
  | p :: r => bif keyEq key p.1 then (p.1, x) :: r else p :: setK key x r
/-- Keys as numbers. -/
def keyK (pk : Bool) (d : D) (K : Int × Int → Prop) : Prop :=
  match pk, d with
  | true, .v (.agg ⟨[.int .i8 a, .int .i8 b]⟩) => K (a, b)
  | false, .v (.int .i64 a) => K (a, 0)
  | _, _ => False
/-- A map that is told, and a key. -/
def mapK (P : Program) (T : Types) (s : St) (t : TypeId) (m k : D) (K : Id → Bool → List ((Int × Int) × Value) → TI → Int × Int → Prop) : Prop :=
  match T t, m with
  | some ⟨.map kt e, _, _, _⟩, .mr id => (match s.m id, T e with
    | some (.obj (.map pk kvs)), some ti => KeyOk P t pk ∧ keyK pk k fun key => K id pk kvs ti key
    | _, _ => False)
  | _, _ => False
def lookK (P : Program) (T : Types) (s : St) (t : TypeId) (m k : D) (ok : Bool) (K : D → Prop) : Prop :=
  mapK P T s t m k fun id pk kvs ti key =>
    (match ok with
    | false => K (.v ((findK key kvs).getD ti.zero))
    | true => K (.tup [.v ((findK key kvs).getD ti.zero), .v (.bool (findK key kvs).isSome)]))
def entryK (s : St) (x : D) (K : D → Prop) : Prop :=
  match x with
  | .ptr id 0 => (match s.m id with
    | some (.obj (.mit mid since seen last)) => (match s.m mid with
      | some (.obj (.map pk kvs)) => last = kvs.length ∧ ∃ j key v, seen.getLast? = some j ∧ kvs[j]? = some (key, v) ∧ K (.tup [.v (keyV pk key), .v v])
      | _ => False)
    | _ => False)
  | _ => False

def newK (s : St) (dst : Option Tmp) (d : Id → D) (c : D) (K : Eff → Prop) : Prop :=
  match dst with
  | some i => K (.new (d (i, s.c i, 0)) (one c))
  | none => False

/-- Operations that write to no cell that was there. -/
def quietK (P : Program) (T : Types) (o : Oper) (s : St) (K : Eff → Prop) : Prop :=
  match o.op with
  | .move x => force (s.ev x) fun d => K (.val d)
  | .assign x => force (s.ev x) fun d => K (.val d)
  | .pick c a b => (match s.ev c with
    | .v (.bool x) => (match x with
      | true => force (s.ev a) fun d => K (.val d)
      | false => force (s.ev b) fun d => K (.val d))
    | _ => False)
  | .alloc t => (match T t with | some i => newK s o.dst (fun id => .ptr id 0) (cont (.v i.zero)) K | none => False)
  | .box _ x => force (s.ev x) fun d => (match d with | .junk => False | .tup _ => False | d => newK s o.dst (fun id => .ptr id 0) (cont d) K)
  | .build t parts => (match T t with
    | some ⟨.struct fs, _, _, z⟩ => (match asList (cont (.v z)) with
      | some zs => (match mapO (fun p : Nat × TypeId => match T p.2 with | some ti => some (p.1, ti.size) | none => none) fs with
        | some pl => (match fillD (fun i => pl[i]?) zs (evParts s parts) with
          | some ds => K (.val (mkAgg ds))
          | none => False)
        | none => False)
      | none => False)
    | some ⟨.arr _ e, _, _, z⟩ => (match T e, asList (cont (.v z)) with
      | some ti, some zs => (match fillD (fun i => some (i * ti.size, ti.size)) zs (evParts s parts) with
        | some ds => K (.val (mkAgg ds))
        | none => False)
      | _, _ => False)
    | _ => False)
  | .buildSlice t len parts => (match T t with
    | some ⟨.slice e, _, _, _⟩ => (match T e with
      | some ti => (match asList (cont (.v ti.zero)) with
        | some zs => (match fillD (fun i => some (i * ti.size, ti.size)) (rep len zs) (evParts s parts) with
          | some ds => asrt (Nat.ble (len * ti.size) 16777216) (newK s o.dst (fun id => .slc true ti.size id 0 len) (mkAgg ds) K)
          | none => False)
        | none => False)
      | none => False)
    | _ => False)
  | .load t a => (match s.ev a with
    | .ptr id off => (match s.m id with | some c => loadK T t c off fun d => K (.val d) | none => False)
    | .ref _ c off => loadK T t c off fun d => K (.val d)
    | _ => False)
  | .binOp op t x y _ => binK P T op t (s.ev x) (s.ev y) fun d => K (.val d)
  | .unOp op _ x => unK op (s.ev x) fun d => K (.val d)
  | .convert a b x => convK T s a b (s.ev x) fun d => K (.val d)
  | .makeMap t none => (match T t with
    | some ⟨.map k _, _, _, _⟩ => (match pkOf T k with | some pk => newK s o.dst (fun id => .mr id) (.obj (.map pk [])) K | none => False)
    | _ => False)
  | .lookup t m k ok => lookK P T s t (s.ev m) (s.ev k) ok fun d => K (.val d)
  | .range t x => (match T t, s.ev x with
    | some ⟨.str, _, _, _⟩, .v (.string b) => newK s o.dst (fun id => .ptr id 0) (.obj (.sit b 0)) K
    | some ⟨.map _ _, _, _, _⟩, .mr id => (match s.m id with
      | some (.obj (.map pk kvs)) => newK s o.dst (fun id' => .ptr id' 0) (.obj (.mit id kvs.length [] kvs.length)) K
      | _ => False)
    | _, _ => False)
  | .entry x => entryK s (s.ev x) fun d => K (.val d)
  | .makeFunc fn first caps => K (.val (.fn fn (first.toList.map s.ev) (caps.toList.map s.ev)))
  | .makeSlice t l c => (match T t, s.ev l, s.ev c with
    | some ⟨.slice e, _, _, _⟩, .v (.int _ n), .v (.int _ m) => (match T e with
      | some ti => asrt (ti.size != 0) ((0 ≤ n ∧ n ≤ m ∧ m ≤ 140737488355328 ∧ m * ti.bytes ≤ 140737488355328) ∧
          newK s o.dst (fun id => .slc true ti.size id 0 n.toNat) (.v (.agg ⟨rep n.toNat ti.zero.cells.toList⟩)) K)
      | none => False)
    | _, _, _ => False)
  | .slice t x lo hi mx => sliceK T s t (s.ev x) lo hi mx fun d => K (.val d)
  | .fieldAddr t x f => fieldAddrK T t (s.ev x) f fun d => K (.val d)
  | .field t x f => fieldK T t (s.ev x) f fun d => K (.val d)
  | .indexAddr t x i => indexAddrK T t (s.ev x) (s.ev i) fun d => K (.val d)
  | .index t x i => indexK T t (s.ev x) (s.ev i) fun d => K (.val d)
  | .extract x i => (match s.ev x with | .tup ds => (match ds[i]? with | some d => force d fun d => K (.val d) | none => False) | _ => False)
  | .nilCheck x => (match s.ev x with | .ptr id off => K (.val (.ptr id off)) | .ref m c off => K (.val (.ref m c off)) | _ => False)
  | .call { callee := .builtin b, args, argTypes } => builtinK T b argTypes (args.toList.map s.ev) fun d => K (.val d)
  | .call { callee := .value f, args, .. } => callK P s (s.ev f) (args.toList.map s.ev) o.dst K
  | _ => False

def catC : D → D → Option D
  | .v (.agg a), .v (.agg b) => some (.v (.agg ⟨a.toList ++ b.toList⟩))
  | a, b => (match asList a, asList b with | some x, some y => some (.agg (x ++ y)) | _, _ => none)

/-- What is appended: its cells and how many elements they are. -/
def srcOf (s : St) (sz : Nat) : D → Option (D × Nat)
  | .v (.string b) => bif sz == 1 then some (.v (.agg ⟨byteVals b⟩), b.size) else none
  | .v (.slice _ 0 _) => some (.v (.agg ⟨[]⟩), 0)
  | d => (match contOf s d, lenD d, szOf d with | some (_, c), some n, some sz' => bif sz == sz' then some (c, n) else none | _, _, _ => none)

def appendK (T : Types) (s : St) (t : TypeId) (x y : D) (dst : Option Tmp) (K : St → Prop) : Prop :=
  match T t, dst with
  | some ⟨.slice e, _, _, _⟩, some i =>
    (match T e with
    | some ti => (match srcOf s ti.size y with
      | some (cy, n) => (match x with
        | .v (.slice none 0 0) => asrt (ti.size != 0) ((n * ti.bytes ≤ 140737488355328 ∧ n ≤ 140737488355328) ∧
            K (s.new i (.slc true ti.size (i, s.c i, 0) 0 n) (one cy)))
        | .slc true sz id 0 len => (match s.m id with
          | some cx => (match catC cx cy with
            | some c => asrt (sz == ti.size && ti.size != 0) (((len + n) * ti.bytes ≤ 140737488355328 ∧ len + n ≤ 140737488355328) ∧
              K ((s.kill id).new i (.slc true ti.size (i, s.c i, 0) 0 (len + n)) (one c)))
            | none => False)
          | none => False)
        | _ => False)
      | none => False)
    | none => False)
  | _, _ => False

/-- A slice of the call's own filled with zeros. -/
def clearK (T : Types) (s : St) (t : TypeId) (x : D) (K : St → Prop) : Prop :=
  match T t, x with
  | some ⟨.slice e, _, _, _⟩, .slc _ sz id off len => (match T e, s.m id with
    | some ti, some c => asrt (sz == ti.size) (0 < len ∧ putK c off (.v (.agg ⟨rep len ti.zero.cells.toList⟩)) fun c' => K (s.setm id c'))
    | _, _ => False)
  | _, _ => False

/-- Cells of a slice copied to the begin of another one that is no shorter. -/
def copyK (T : Types) (s : St) (t : TypeId) (x y : D) (K : St → Nat → Prop) : Prop :=
  match T t, x with
  | some ⟨.slice e, _, _, _⟩, .slc _ sz id off len => (match T e, s.m id with
    | some ti, some c => (match srcOf s ti.size y with
      | some (cy, m) => asrt (sz == ti.size) ((m ≤ len ∧ 0 < len) ∧ putK c off cy fun c' => K (s.setm id c') m)
      | none => False)
    | _, _ => False)
  | _, _ => False
structure Both (a b : Prop) : Prop where
  h : a
  h' : b

def isQuiet (o : Oper) : Bool :=
  match o.op with
  | .call { callee := .builtin .copy, .. } => false
  | .call { callee := .builtin .clear, .. } => false
  | .store .. => false
  | .mapUpdate .. => false
  | .mapEntry .. => false
  | .entryStore .. => false
  | .next .. => false
  | .assign _ => false
  | .call { callee := .builtin .append, .. } => false
  | .call { callee := .value (.func g), .. } => !isMut g
  | _ => true

/-- A map whose keys are places: what it needs of its type. -/
def MapOk (P : Program) (t : TypeId) : Prop :=
  ∃ kt et ty, P.underlying t = some (.map kt et) ∧ P.underlying kt = some ty ∧ (∀ (w : World) (a b : Int), (Instr.checkKey false 10000 kt (.agg ⟨[.int .i8 a, .int .i8 b]⟩)).run P w = .ok () w) ∧
    ∀ (w : World) (a b a' b' : Int), ∃ r, (Op.equal kt (.agg ⟨[.int .i8 a, .int .i8 b]⟩) (.agg ⟨[.int .i8 a', .int .i8 b']⟩)).run P w = .ok r w
def opWp (P : Program) (T : Types) (o : Oper) (s : St) (K : St → Prop) : Prop :=
  match o.op with
  | .store t a x => (match s.ev a with
    | .ptr id off => (match s.m id with
      | some c => force (s.ev x) fun d => storeK T t c off d fun c' => effK (s.setm id c') o.dst (.val (.tup [])) K
      | none => False)
    | _ => False)
  | .mapUpdate t m k x => (match T t, s.ev m with
    | some ⟨.map _ _, _, _, _⟩, .mr id => (match s.m id with
      | some (.obj .places) => (match s.ev k with
        | .v (.agg ⟨[.int .i8 _, .int .i8 _]⟩) => MapOk P t ∧ effK s o.dst (.val (.tup [])) K
        | _ => False)
      | _ => mapK P T s t (s.ev m) (s.ev k) fun id pk kvs ti key => (match s.ev x with
        | .v xv => effK (s.setm id (.obj (.map pk (setK key xv kvs)))) o.dst (.val (.tup [])) K
        | _ => False))
    | _, _ => False)
  | .mapEntry t m k => mapK P T s t (s.ev m) (s.ev k) fun id pk kvs ti key => effK (s.setm id (.obj (.map pk (entK key ti.zero kvs)))) o.dst (.val (.tup [.v ((findK key kvs).getD ti.zero), .v (.int .i64 (idxK key kvs))])) K
  | .entryStore t m e x => (match T t, s.ev m with
    | some ⟨.map _ _, _, _, _⟩, .mr id => (match s.m id, s.ev e, s.ev x with
      | some (.obj (.map pk kvs)), .v (.int _ i), .v xv => (0 ≤ i ∧ i.toNat < kvs.length) ∧ effK (s.setm id (.obj (.map pk (putE i.toNat xv kvs)))) o.dst (.val (.tup [])) K
      | _, _, _ => False)
    | _, _ => False)
  | .next it isString => (match s.ev it with
    | .ptr id 0 => (match s.m id, isString with
      | some (.obj (.sit b pos)), true => Both (pos < b.size → effK (s.setm id (.obj (.sit b (pos + (Utf8.decode b pos).2)))) o.dst (.val (.tup [.v (.bool true), .v (.int .i64 pos), .v (.int .i32 (Utf8.decode b pos).1)])) K)
          (¬ pos < b.size → effK s o.dst (.val (.tup [.v (.bool false)])) K)
      | some (.obj (.mit mid since seen last)), false => (match s.m mid with
        | some (.obj (.map pk kvs)) => Both (∀ (j : Nat) (key : Int × Int) (v : Value), kvs[j]? = some (key, v) → j ∉ seen → effK (s.setm id (.obj (.mit mid since (seen ++ [j]) kvs.length))) o.dst (.val (.tup [.v (.bool true), .v (keyV pk key), .v v])) K)
            ((∀ j, j < since → j < kvs.length → j ∈ seen) → effK s o.dst (.val (.tup [.v (.bool false)])) K)
        | _ => False)
      | _, _ => False)
    | _ => False)
  | .call { callee := .builtin .append, args, argTypes } => (match args.toList, argTypes.toList with
    | [x, y], [t, t'] => (match T t' with
      | some ⟨.int _, _, _, _⟩ => False
      | some _ => appendK T s t (s.ev x) (s.ev y) o.dst K
      | none => False)
    | _, _ => False)
  | .call { callee := .builtin .copy, args, argTypes } => (match args.toList, argTypes.toList with
    | [x, y], [t, _] => copyK T s t (s.ev x) (s.ev y) fun s' m => effK s' o.dst (.val (.v (.int .i64 m))) K
    | _, _ => False)
  | .call { callee := .builtin .clear, args, argTypes } => (match args.toList, argTypes.toList with
    | [x], [t] => clearK T s t (s.ev x) fun s' => effK s' o.dst (.val (.tup [])) K
    | _, _ => False)
  | .call { callee := .value (.func g), args, .. } => bif isBoth g then (callK P s (.fn (.func g) [] []) (args.toList.map s.ev) o.dst (fun e => effK s o.dst e K) ∨ callMK false P s (.fn (.func g) [] []) (args.toList.map s.ev) o.dst K) else bif isMut g then callMK (isLow g) P s (.fn (.func g) [] []) (args.toList.map s.ev) o.dst K else callK P s (.fn (.func g) [] []) (args.toList.map s.ev) o.dst fun e => effK s o.dst e K
  | .call { callee := .value f, args, .. } => callK P s (s.ev f) (args.toList.map s.ev) o.dst (fun e => effK s o.dst e K) ∨ callMK false P s (s.ev f) (args.toList.map s.ev) o.dst K
  | _ => quietK P T o s fun e => effK s o.dst e K

/-- The slot that an operation's guard looks at, and what it wants. -/
def guardOf (ops : Array Oper) (o : Oper) : Option (Option Tmp × Bool) :=
  match o.guard with
  | none => none
  | some (j, want) => some ((ops[j]?).bind (·.dst), want)

def guardK (ops : Array Oper) (o : Oper) (s : St) (yes no : Prop) : Prop :=
  match guardOf ops o with
  | none => yes
  | some (some g, want) => (match s.t g with
    | .v (.bool b) => (match b, want with | true, true => yes | false, false => yes | _, _ => no)
    | .tup [] => no
    | _ => False)
  | some (none, _) => False

def opsWp (P : Program) (T : Types) (ops : Array Oper) : List Oper → (St → Prop) → St → Prop
  | [], K, s => K s
  | o :: r, K, s => guardK ops o s (opWp P T o s (opsWp P T ops r K)) (effK s o.dst (.val (.tup [])) (opsWp P T ops r K))

/-- A state without the new blocks of some slots. -/
def St.hide (s : St) (h : Nat → Bool) (c0 : Nat → Nat) : St := { s with m := fun id => bif h id.1 && Nat.ble (c0 id.1) id.2.1 then none else s.m id }

/-- The slots of the first 'k' operations that operation 'j' need not come behind. -/
def unseen (ops : Array Oper) (bs : Array Nat) (k j : Nat) (x : Nat) : Bool :=
  (List.range k).any fun i => (match ops[i]? with | some o => o.dst == some x | none => false) && !((bs.getD j 0).testBit i)

/-- A call that writes to what is lent. -/
def isMid (o : Oper) : Bool := match o.op with | .call { callee := .value (.func g), .. } => isMut g && !isBoth g && o.dst.isSome | .call { callee := .builtin .append, .. } => o.dst.isSome | _ => false
/-- An operation that makes new memory, or writes to what is lent. -/
def isNew (o : Oper) : Bool := isMid o || (match o.op with | .buildSlice .. => o.dst.isSome | .call { callee := .value (.func g), .. } => !isMut g && !isBoth g && o.dst.isSome | _ => false)
/-- The pointer through which an operation looks at memory. -/
def ptrOf (o : Oper) : Option Operand := match o.op with | .load _ x => some x | .slice _ x _ _ _ => some x | _ => none
/-- Pointers of loads that may come behind a call that writes. -/
def lateLds (ops : Array Oper) (bs : Array Nat) (k : Nat) : Nat → List Oper → List Operand
  | _, [] => []
  | i, o :: r => bif Nat.blt i k then (match ptrOf o with
      | some x => bif ((List.range ops.size).any fun j => Nat.ble k j && ((match ops[j]? with | some q => isNew q | none => false) && !((bs.getD j 0).testBit i))) then x :: lateLds ops bs k (i + 1) r else lateLds ops bs k (i + 1) r
      | none => lateLds ops bs k (i + 1) r) else []
/-- What some pointers lead to is as it was. -/
def keepK (s s1 : St) : List Operand → Prop → Prop
  | [], p => p
  | x :: r, p => (match s.ev x with | .ptr id _ => s1.m id = s.m id | _ => True) ∧ keepK s s1 r p
/-- Operations in their order, where loads may come behind calls. -/
def finWp (P : Program) (T : Types) (ops : Array Oper) (lds : List Operand) : List Oper → (St → Prop) → St → Prop
  | [], K, s => K s
  | o :: r, K, s => guardK ops o s (bif isNew o then opWp P T o s (fun s1 => keepK s s1 lds (finWp P T ops lds r K s1)) else opWp P T o s (finWp P T ops lds r K)) (effK s o.dst (.val (.tup [])) (finWp P T ops lds r K))
/-- A pointer that leads to other cells than those that are written to. -/
def sepD : D → D → Bool
  | .ptr id _, .ptr id' _ => !(id'.1 == id.1 && (id'.2.1 == id.2.1 && id'.2.2 == id.2.2))
  | .ptr .., _ => false
  | _, _ => true
/-- No operation from the k-th on changes that slot. -/
def still (ops : Array Oper) (k : Nat) : Operand → Bool
  | .tmp t => (ops.toList.drop k).all fun o => (match o.dst with | some d => !(d == t) | none => true)
  | _ => false
def apart1 (ops : Array Oper) (bs : Array Nat) (k : Nat) (s : St) (i : Nat) (x : Operand) : Nat → List Oper → Bool
  | _, [] => true
  | j, o :: r => (match o.op with | .store _ a _ => ((bs.getD j 0).testBit i || (sepD (s.ev x) (s.ev a) && still ops k a)) && apart1 ops bs k s i x (j + 1) r | _ => apart1 ops bs k s i x (j + 1) r)
/-- What is loaded late is not written to before. -/
def apart (ops : Array Oper) (bs : Array Nat) (k : Nat) (s : St) : Nat → List Oper → Bool
  | _, [] => true
  | i, o :: r => bif Nat.blt i k then (match ptrOf o with | some x => apart1 ops bs k s i x k (ops.toList.drop k) && apart ops bs k s (i + 1) r | none => apart ops bs k s (i + 1) r) else true

/-- A region in an order that is open: the first k operations in whatever order. -/
def drawWp (P : Program) (T : Types) (ops : Array Oper) (bs : Array Nat) (k : Nat) (c0 : Nat → Nat) : Nat → List Oper → (St → Prop) → St → Prop
  | _, [], K, s => K s
  | j, o :: r, K, s =>
    bif Nat.blt j k then
      guardK ops o s (quietK P T o (s.hide (unseen ops bs k j) c0) fun e => effK s o.dst e (drawWp P T ops bs k c0 (j + 1) r K)) (effK s o.dst (.val (.tup [])) (drawWp P T ops bs k c0 (j + 1) r K))
    else asrt (apart ops bs k s 0 ops.toList) (finWp P T ops (lateLds ops bs k 0 ops.toList) (o :: r) K s)

def quietCount : List Oper → Nat
  | [] => 0
  | o :: r => bif isQuiet o then quietCount r + 1 else 0
def depsOf (o : Oper) : List Nat := (o.after.toList.filter (Region.binds .any)).map (·.on)
def depsAt (ops : Array Oper) (j : Nat) : List Nat := match ops[j]? with | some o => depsOf o | none => []
/-- Of each operation some that come before it in whatever order, as bits. -/
def befores : List Oper → List Nat → List Nat
  | [], acc => acc
  | o :: r, acc => befores r (acc ++ [(depsOf o).foldl (fun s e => s ||| 2 ^ e ||| acc.getD e 0) 0])
def befs (ops : Array Oper) : Array Nat := ⟨befores ops.toList []⟩
/-- 'bs' tells of each operation some that come before it in whatever order. -/
def certOk (ops : Array Oper) (bs : Array Nat) : Bool :=
  (List.range ops.size).all fun j => (List.range ops.size).all fun i =>
    !((bs.getD j 0).testBit i) || (Nat.blt i j && ((depsAt ops j).contains i || (depsAt ops j).any fun e => Nat.blt e j && (bs.getD e 0).testBit i))
/-- An operation that looks at slots alone. -/
def isPureOp (o : Oper) : Bool := match o.op with | .move _ => true | .extract .. => true | .unOp .. => true | .binOp .. => true | .load .. => true | .fieldAddr .. => true | .indexAddr .. => true | .nilCheck _ => true | .slice .. => true | .convert a _ _ => isNum a | _ => false
def isStore (o : Oper) : Bool := match o.op with | .store .. => true | .assign _ => true | _ => false
/-- An operation behind which others may come: a store, a value, a call that writes. -/
def isFin (o : Oper) : Bool := isStore o || (isMid o || (match o.op with | .move _ => true | .convert .. => true | .build .. => true | .buildSlice .. => o.dst.isSome | .call { callee := .value (.func g), .. } => !isMut g && !isBoth g && o.dst.isSome | _ => false))
/-- Operation 'p' may come behind the later 'o' as well. -/
def lateOk (ops : Array Oper) (o p : Oper) : Bool :=
  isFin o && isPureOp p && (match p.dst with
    | none => false
    | some d => !(o.looksAt ops).contains d && !(p.looksAt ops).contains d && o.dst != some d && (match o.dst with | none => true | some d' => !(p.looksAt ops).contains d'))
/-- What is asked of a region whose order is open. -/
def drawOk (ops : Array Oper) (bs : Array Nat) (k : Nat) : Bool :=
  certOk ops bs && Nat.ble k ops.size &&
  (List.range ops.size).all fun j =>
    match ops[j]? with
    | none => false
    | some o => (depsOf o).all (fun e => Nat.blt e j) &&
      (bif Nat.blt j k then
        (List.range k).all fun i => i == j || (match ops[i]? with
          | none => false
          | some p => (match p.dst with
            | none => true
            | some d => o.dst != some d && (!(o.looksAt ops).contains d || (bs.getD j 0).testBit i)))
      else (List.range j).all fun i => (bs.getD j 0).testBit i || (Nat.blt i k && (match ops[i]? with | some p => lateOk ops o p | none => false)))

/-! Regions in which a call that writes stands before operations that need not wait for it: those are told first. -/
def rePi (l : List Nat) (i : Nat) : Nat := l.idxOf i
def reOp (l : List Nat) (o : Oper) : Oper := { o with after := ⟨o.after.toList.map fun e => { e with on := rePi l e.on }⟩, guard := (match o.guard with | some (j, b) => some (rePi l j, b) | none => none) }
def pickOps (ops : Array Oper) (l : List Nat) : List Nat → List Oper
  | [] => []
  | i :: r => (match ops[i]? with | some o => reOp l o :: pickOps ops l r | none => pickOps ops l r)
def isEarly (ops : Array Oper) (bs : Array Nat) (i : Nat) : Bool :=
  (match ops[i]? with | some o => isQuiet o | none => false) && (List.range ops.size).all fun j => !((bs.getD i 0).testBit j) || (match ops[j]? with | some o => isQuiet o | none => false)
def early (ops : Array Oper) (bs : Array Nat) : List Nat := (List.range ops.size).filter (isEarly ops bs) ++ (List.range ops.size).filter fun i => !isEarly ops bs i
def sortOps (ops : Array Oper) : Array Oper := ⟨pickOps ops (early ops (befs ops)) (early ops (befs ops))⟩
def needSort (ops : Array Oper) : Bool := ops.toList.any isMid && (ops.toList.dropWhile isQuiet).any isQuiet
def guardsOk (ops : Array Oper) : Bool := ops.toList.all fun o => match o.guard with | some (j, _) => Nat.blt j ops.size | none => true

/-- A region with a call of a value whose order is told by its parts. -/
def seqOk (ops : Array Oper) : Bool := (ops.toList.any fun o => match o.op with | .call { callee := .value (.tmp _), .. } => true | _ => false) && drawOk ops (befs ops) 0
def dstOk (n : Nat) (ops : Array Oper) : Bool := ops.toList.all fun o => match o.dst with | none => true | some d => Nat.blt d n

/-! A small region in whose midst a map is written: all its orders are gone through. -/
def allL {α : Type} : List α → (α → Prop) → Prop
  | [], _ => False
  | [x], p => p x
  | x :: y :: r, p => Both (p x) (allL (y :: r) p)
def readyL (ops : Array Oper) (listed : List Bool) : List Nat := (List.range ops.size).filter fun i => !listed.getD i false && (depsAt ops i).all fun e => listed.getD e false
def allWp (P : Program) (T : Types) (ops : Array Oper) : Nat → List Bool → (St → Prop) → St → Prop
  | 0, _, K, s => K s
  | fuel + 1, listed, K, s => allL (readyL ops listed) fun i => match ops[i]? with
    | some o => guardK ops o s (opWp P T o s (allWp P T ops fuel (listed.set i true) K)) (effK s o.dst (.val (.tup [])) (allWp P T ops fuel (listed.set i true) K))
    | none => False
def hasEntry (ops : Array Oper) : Bool := ops.toList.any fun o => match o.op with | .mapEntry .. => true | _ => false

/-- What is asked of a function's code as it stands. -/
def codeOk (n : Nat) : Code → Bool
  | .region _ ops d => dstOk n ops && (!d || (hasEntry ops || (seqOk ops || (bif needSort ops then guardsOk ops && (dstOk n (sortOps ops) && drawOk (sortOps ops) (befs (sortOps ops)) (quietCount (sortOps ops).toList)) else drawOk ops (befs ops) (quietCount ops.toList)))))
  | .seq a b => codeOk n a && codeOk n b
  | .cond _ a b => codeOk n a && codeOk n b
  | .block _ c => codeOk n c
  | .loop c => codeOk n c
  | _ => true

inductive Ex where
  | normal
  | exit (id : Nat)
  | ret
def Ex.seq (K : St → Prop) (Q : Ex → St → Prop) : Ex → St → Prop
  | .normal, s => K s
  | e, s => Q e s
def Ex.block (id : Nat) (Q : Ex → St → Prop) : Ex → St → Prop
  | .exit i, s => bif i == id then Q .normal s else Q (.exit i) s
  | e, s => Q e s

def resK (T : Types) (s : St) : List ResultVar → (List D → Prop) → Prop
  | [], K => K []
  | .tmp t :: r, K => force (s.t t) fun d => resK T s r fun ds => K (d :: ds)
  | .cell a t :: r, K => (match s.t a with
    | .ptr id off => (match s.m id with
      | some c => loadK T t c off fun d => resK T s r fun ds => K (d :: ds)
      | none => False)
    | _ => False)

def topIds : List D → List Id
  | [] => []
  | .slc _ _ id _ _ :: r => id :: topIds r
  | _ :: r => topIds r
def distinct : List Id → Bool
  | [] => true
  | i :: r => !(idIn i r) && distinct r

/-- A result's part, as data: a slice of the call's own is handed over. -/
def expD (bad : List Id) (m : Id → Option D) : D → Option D
  | .slc true sz id 0 len => bif Nat.ble lentKey id.1 then none else (match m id with
    | some c => (match deep true bad m depth c with | some c' => some (.row true sz c' len) | none => none)
    | none => none)
  | .slc .. => none
  | .row .. => none
  | .tup _ => none
  | d => deep true bad m depth d
def one' : List D → D
  | [d] => d
  | ds => .tup ds

def finQ (T : Types) (rs : List ResultVar) (res : D) (s : St) : Prop :=
  resK T s rs fun ds => distinct (topIds ds) = true ∧ ∃ ds', mapO (expD (topIds ds) s.m) ds = some ds' ∧ res = one' ds'
def bodyQ (T : Types) (rs : List ResultVar) (res : D) : Ex → St → Prop
  | .normal, s => finQ T rs res s
  | .ret, s => finQ T rs res s
  | .exit _, _ => False

/-- The state at a function's begin. -/
def entry (args : List D) : St := { t := fun i => args.getD i .junk, m := fun _ => none, c := fun _ => 0 }

end Go.V
/- The abstract states are sound, first part: what a value stands for stays so while memory grows; data out of a value. -/
set_option linter.unusedVariables false
set_option linter.unusedSimpArgs false
set_option linter.unusedSectionVars false
namespace Go.V
variable [Globs]

structure Ext (base' base : Nat) (w : World) (loc : Loc) (w' : World) (loc' : Loc) : Prop where
  le : base' ≤ base
  keep : ∀ id l, loc id = some l → loc' id = some l
  old : ∀ b k e fr, w.heap[b]? = some (.cells k e fr) → loc.avoids b → w'.heap[b]? = some (.cells k e fr) ∧ loc'.avoids b
  own : ∀ id b n k e fr, loc id = some (some b, n) → w.heap[b]? = some (.cells k e fr) → ∃ k' e' fr', w'.heap[b]? = some (.cells k' e' fr') ∧ k.size ≤ k'.size

theorem Ext.at {base' base : Nat} {w w' : World} {loc loc' : Loc} (h : Ext base' base w loc w' loc') {b o : Nat} {xs : List Value} (ha : At w b o xs) (hv : loc.avoids b) :
    At w' b o xs ∧ loc'.avoids b := by
  obtain ⟨k, e, fr, hk, h1, h2⟩ := ha
  obtain ⟨h3, h4⟩ := h.old b k e fr hk hv
  exact ⟨⟨k, e, fr, h3, h1, h2⟩, h4⟩

theorem GlobOk.ext {base' base : Nat} {w w' : World} {loc loc' : Loc} (h : GlobOk w loc) (hx : Ext base' base w loc w' loc') : GlobOk w' loc' :=
  have key : ∀ g xs, Cells w g xs → loc.avoids g → Cells w' g xs ∧ loc'.avoids g := fun g xs ⟨e, fr, h1⟩ h2 => by
    obtain ⟨h3, h4⟩ := hx.old g _ e fr h1 h2; exact ⟨⟨e, fr, h3⟩, h4⟩
  ⟨fun g xs hg => key g xs (h.tab g xs hg).1 (h.tab g xs hg).2, fun g Q hg => by obtain ⟨xs, h1, h2, h3⟩ := h.any g Q hg; exact ⟨xs, h1, key g xs h2 h3⟩⟩
theorem Cells.at {w : World} {b : Nat} {xs : List Value} (h : Cells w b xs) : At w b 0 xs := by
  obtain ⟨e, fr, h⟩ := h
  exact ⟨_, e, fr, h, by simp, by simp⟩
theorem GlobOk.loc {w : World} {loc loc' : Loc} (h : GlobOk w loc) (hx : ∀ b, loc.avoids b → loc'.avoids b) : GlobOk w loc' :=
  ⟨fun g xs hg => ⟨(h.tab g xs hg).1, hx _ (h.tab g xs hg).2⟩, fun g Q hg => by obtain ⟨xs, h1, h2, h3⟩ := h.any g Q hg; exact ⟨xs, h1, h2, hx _ h3⟩⟩
theorem GlobOk.lt {w : World} {loc : Loc} (h : GlobOk w loc) : ∀ g, (Globs.tab g).isSome = true ∨ (Globs.any g).isSome = true → g < w.heap.size := by
  have key : ∀ g xs, Cells w g xs → g < w.heap.size := fun g xs ⟨e, fr, h⟩ => (Array.getElem?_eq_some_iff.1 h).1
  rintro g (hg | hg)
  · obtain ⟨xs, hx⟩ := Option.isSome_iff_exists.1 hg
    exact key g xs (h.tab g xs hx).1
  · obtain ⟨Q, hx⟩ := Option.isSome_iff_exists.1 hg
    obtain ⟨xs, _, h2, _⟩ := h.any g Q hx
    exact key g xs h2
theorem GlobOk.no {w : World} {loc : Loc} (h : GlobOk w loc) : GlobOk w noLoc := h.loc fun _ _ _ _ => by simp [noLoc]
theorem OwnRow.ext {base' base : Nat} {w w' : World} {loc loc' : Loc} (h : Ext base' base w loc w' loc') {a : Option Addr} {cap sz len : Nat} (ho : OwnRow w base loc a cap sz len) : OwnRow w' base' loc' a cap sz len := by
  rcases ho with ho | ⟨b, k, e, h1, h2, h3, h4, h5⟩
  · exact .inl ho
  · obtain ⟨g1, g2⟩ := h.old b k e (0, 0) h4 h2
    exact .inr ⟨b, k, e, h1, g2, Nat.le_trans h.le h3, g1, h5⟩
mutual
theorem Rep.ext {base' base : Nat} {w w' : World} {loc loc' : Loc} (h : Ext base' base w loc w' loc') : ∀ (d : D) (y : Value), Rep w base loc d y → Rep w' base' loc' d y
  | .junk, _, _ => by simp [Rep]
  | .v x, y, hr => by simpa only [Rep] using hr
  | .ptr id off, y, hr => by
    simp only [Rep] at hr ⊢
    obtain ⟨b, n, h1, h2⟩ := hr
    exact ⟨b, n, h.keep _ _ h1, h2⟩
  | .slc full sz id off len, y, hr => by
    simp only [Rep] at hr ⊢
    obtain ⟨a, cap, l, n, h1, h2, h3, h4, h5, h6⟩ := hr
    refine ⟨a, cap, l, n, h1, h2, h.keep _ _ h3, h4, h5, ?_⟩
    cases l with
    | none => exact h6
    | some b =>
      obtain ⟨o, g1, g2, g3⟩ := h6
      refine ⟨o, g1, g2, fun hf => ?_⟩
      obtain ⟨g4, k, e, fr, g5, g6⟩ := g3 hf
      obtain ⟨k', e', fr', g7, g8⟩ := h.own _ _ _ _ _ _ h3 g5
      exact ⟨g4, k', e', fr', g7, Nat.le_trans g6 g8⟩
  | .ref mine c off, y, hr => by
    simp only [Rep] at hr ⊢
    obtain ⟨b, o, xs, h1, h2, h3, h4, h5⟩ := hr
    obtain ⟨g1, g2⟩ := h.at h2 h3
    exact ⟨b, o, xs, h1, g1, g2, fun hm => Nat.le_trans h.le (h4 hm), Rep.ext h c _ h5⟩
  | .row mine sz c len, y, hr => by
    simp only [Rep] at hr ⊢
    obtain ⟨a, cap, xs, h1, h2, h3, h4, h5, hO⟩ := hr
    refine ⟨a, cap, xs, h1, h2, Rep.ext h c _ h3, h4, ?_, fun hm => (hO hm).ext h⟩
    rcases h5 with h5 | ⟨b, o, g1, g2, g3, g4⟩
    · exact .inl h5
    · obtain ⟨g5, g6⟩ := h.at g2 g3
      exact .inr ⟨b, o, g1, g5, g6, fun hm => Nat.le_trans h.le (g4 hm)⟩
  | .agg ds, y, hr => by
    simp only [Rep] at hr ⊢
    obtain ⟨vs, h1, h2, h3⟩ := hr
    exact ⟨vs, h1, RepL.ext h ds vs h2, h3⟩
  | .tup ds, y, hr => by
    simp only [Rep] at hr ⊢
    obtain ⟨vs, h1, h2⟩ := hr
    exact ⟨vs, h1, RepL.ext h ds vs h2⟩
  | .fn f first caps, y, hr => by
    simp only [Rep] at hr ⊢
    obtain ⟨a, b, h1, h2, h3⟩ := hr
    exact ⟨a, b, h1, RepL.ext h first a h2, RepL.ext h caps b h3⟩
  | .mr id, y, hr => by
    simp only [Rep] at hr ⊢
    obtain ⟨b, n, h1, h2⟩ := hr
    exact ⟨b, n, h.keep _ _ h1, h2⟩
  | .obj x, y, hr => by simp [Rep] at hr
theorem RepL.ext {base' base : Nat} {w w' : World} {loc loc' : Loc} (h : Ext base' base w loc w' loc') : ∀ (ds : List D) (vs : List Value), RepL w base loc ds vs → RepL w' base' loc' ds vs
  | [], vs, hr => by simpa only [RepL] using hr
  | d :: ds, vs, hr => by
    simp only [RepL] at hr ⊢
    obtain ⟨y, ys, h1, h2, h3⟩ := hr
    exact ⟨y, ys, h1, Rep.ext h d y h2, RepL.ext h ds ys h3⟩
end

section
variable {w : World} {base : Nat} {loc : Loc}

theorem RepL.length : ∀ {ds : List D} {vs : List Value}, RepL w base loc ds vs → ds.length = vs.length
  | [], vs, h => by simp only [RepL] at h; simp [h]
  | d :: ds, vs, h => by
    simp only [RepL] at h
    obtain ⟨y, ys, rfl, _, h3⟩ := h
    simp [RepL.length h3]

theorem RepL.get : ∀ {ds : List D} {vs : List Value} (_ : RepL w base loc ds vs) (i : Nat) (d : D), ds[i]? = some d → ∃ y, vs[i]? = some y ∧ Rep w base loc d y
  | [], vs, _, i, d, hd => by simp at hd
  | d0 :: ds, vs, h, i, d, hd => by
    simp only [RepL] at h
    obtain ⟨y, ys, rfl, h2, h3⟩ := h
    cases i with
    | zero => simp at hd; subst hd; exact ⟨y, by simp, h2⟩
    | succ i => simp at hd; simpa using RepL.get h3 i d hd

theorem RepL.append : ∀ {ds es : List D} {vs us : List Value}, RepL w base loc ds vs → RepL w base loc es us → RepL w base loc (ds ++ es) (vs ++ us)
  | [], es, vs, us, h, h' => by simp only [RepL] at h; subst h; simpa using h'
  | d :: ds, es, vs, us, h, h' => by
    simp only [RepL] at h
    obtain ⟨y, ys, rfl, h2, h3⟩ := h
    simp only [List.cons_append, RepL]
    exact ⟨y, ys ++ us, rfl, h2, RepL.append h3 h'⟩

theorem RepL.drop : ∀ {ds : List D} {vs : List Value} (n : Nat), RepL w base loc ds vs → RepL w base loc (ds.drop n) (vs.drop n)
  | ds, vs, 0, h => by simpa using h
  | [], vs, n + 1, h => by simp only [RepL] at h; subst h; simp [RepL]
  | d :: ds, vs, n + 1, h => by
    simp only [RepL] at h
    obtain ⟨y, ys, rfl, h2, h3⟩ := h
    simpa using RepL.drop n h3

theorem RepL.take : ∀ {ds : List D} {vs : List Value} (n : Nat), RepL w base loc ds vs → RepL w base loc (ds.take n) (vs.take n)
  | ds, vs, 0, h => by simp [RepL]
  | [], vs, n + 1, h => by simp only [RepL] at h; subst h; simp [RepL]
  | d :: ds, vs, n + 1, h => by
    simp only [RepL] at h
    obtain ⟨y, ys, rfl, h2, h3⟩ := h
    simp only [List.take_succ_cons, RepL]
    exact ⟨y, ys.take n, rfl, h2, RepL.take n h3⟩

theorem RepL.splice {ds es : List D} {vs us : List Value} (off : Nat) (h : RepL w base loc ds vs) (h' : RepL w base loc es us) : RepL w base loc (splice ds off es) (splice vs off us) := by
  unfold V.splice
  rw [h'.length]
  exact ((h.take off).append h').append (h.drop _)

theorem RepL.set {ds : List D} {vs : List Value} (i : Nat) {d : D} {y : Value} (h : RepL w base loc ds vs) (h' : Rep w base loc d y) : RepL w base loc (ds.set i d) (vs.set i y) := by
  induction ds generalizing vs i with
  | nil => simp only [RepL] at h; subst h; simp [RepL]
  | cons d0 ds ih =>
    simp only [RepL] at h
    obtain ⟨y0, ys, rfl, h2, h3⟩ := h
    cases i with
    | zero => simp only [List.set_cons_zero, RepL]; exact ⟨y, ys, rfl, h', h3⟩
    | succ i => simp only [List.set_cons_succ, RepL]; exact ⟨y0, ys.set i y, rfl, h2, ih i h3⟩

theorem flat_one {x : Value} (h : x.oneCell' = true) : Flat x = true := by cases x <;> simp_all [Value.oneCell', Flat]

theorem RepL.vals {xs : List Value} (h : xs.all Value.oneCell' = true) : RepL w base loc (xs.map .v) xs := by
  induction xs with
  | nil => simp [RepL]
  | cons x xs ih =>
    simp only [List.all_cons, Bool.and_eq_true] at h
    simp only [List.map_cons, RepL]
    exact ⟨x, xs, rfl, by simp only [Rep, true_and]; exact flat_one h.1, ih h.2⟩

theorem RepL.of_plain : ∀ {ds : List D} {xs vs : List Value}, plainVals ds = some xs → RepL w base loc ds vs → vs = xs
  | [], xs, vs, hp, h => by simp only [plainVals, Option.some.injEq] at hp; simp only [RepL] at h; rw [h, ← hp]
  | d :: ds, xs, vs, hp, h => by
    simp only [RepL] at h
    obtain ⟨y, ys, rfl, h2, h3⟩ := h
    cases d <;> simp only [plainVals] at hp <;> try (exact absurd hp (by simp))
    split at hp
    · rename_i x xs' hx
      simp only [Option.some.injEq] at hp
      simp only [Rep] at h2
      rw [← hp, h2.1, RepL.of_plain hx h3]
    · simp at hp

theorem Rep.mkAgg {ds : List D} {vs : List Value} (h : RepL w base loc ds vs) (h1 : vs.all Value.oneCell' = true) : Rep w base loc (mkAgg ds) (.agg ⟨vs⟩) := by
  unfold V.mkAgg
  split
  · rename_i xs hx
    have := h.of_plain hx
    subst this
    simp only [Rep, true_and]
    simpa [Flat] using h1
  · simp only [Rep]
    exact ⟨vs, rfl, h, h1⟩

/-- The cells behind an aggregate's value. -/
theorem Rep.asList {d : D} {ds : List D} {xs : List Value} (hd : asList d = some ds) (h : Rep w base loc d (.agg ⟨xs⟩)) : RepL w base loc ds xs ∧ xs.all Value.oneCell' = true := by
  cases d with
  | v x =>
    cases x with
    | agg a =>
      simp only [V.asList, Option.some.injEq] at hd
      subst hd
      simp only [Rep, Value.agg.injEq] at h
      obtain ⟨h1, h2⟩ := h
      subst h1
      simp only [Flat] at h2
      exact ⟨.vals h2, h2⟩
    | _ => simp [V.asList] at hd
  | agg es =>
    simp only [V.asList, Option.some.injEq] at hd
    subst hd
    simp only [Rep, Value.agg.injEq, Array.mk.injEq] at h
    obtain ⟨vs, rfl, h2, h3⟩ := h
    exact ⟨h2, h3⟩
  | _ => simp [V.asList] at hd

theorem Rep.agg_one {d : D} {xs : List Value} (h : Rep w base loc d (.agg ⟨xs⟩)) (hd : (V.asList d).isSome = true) : xs.all Value.oneCell' = true := by
  obtain ⟨ds, hd⟩ := Option.isSome_iff_exists.1 hd
  exact (h.asList hd).2

theorem At.of_blk {w : World} {b : Nat} {xs : List Value} (h : BlkAt w (some b) xs) : At w b 0 xs := by
  obtain ⟨k, e, h1, h2, h3⟩ := h
  exact ⟨k, e, (0, 0), h1, by omega, by simpa using h2⟩

theorem At.sub {w : World} {b o : Nat} {xs : List Value} (h : At w b o xs) (i n : Nat) (hn : i + n ≤ xs.length) : At w b (o + i) ((xs.drop i).take n) := by
  obtain ⟨k, e, fr, h1, h2, h3⟩ := h
  have hl : ((xs.drop i).take n).length = n := by simp; omega
  refine ⟨k, e, fr, h1, by rw [hl]; omega, ?_⟩
  rw [hl]
  conv => rhs; rw [← h3]
  rw [List.drop_take, List.take_take, List.drop_drop]
  congr 1
  omega

theorem At.get {w : World} {b o : Nat} {xs : List Value} (h : At w b o xs) {i : Nat} {x : Value} (hi : xs[i]? = some x) : w.cell? ⟨b, o + i, none⟩ = some x := by
  obtain ⟨k, e, fr, h1, h2, h3⟩ := h
  have hlt : i < xs.length := (List.getElem?_eq_some_iff.1 hi).1
  rw [← h3] at hi
  rw [List.getElem?_take, if_pos hlt, List.getElem?_drop] at hi
  simp only [World.cell?, h1]
  simpa using hi

/-- Memory that the abstract one stands for. -/
def MemOk (w : World) (base : Nat) (loc : Loc) (m : Id → Option D) : Prop :=
  ∀ id c, m id = some c → ∃ l xs, loc id = some (l, xs.length) ∧ Cont w base loc c l xs

theorem ORep.ext {w w' : World} {loc loc' : Loc} {x : Ob} {b : Nat} (hk : ∀ o, w.heap[b]? = some o → isCells o = false → w'.heap[b]? = some o) (hl : ∀ id l, loc id = some l → loc' id = some l) (h : ORep w loc x b) : ORep w' loc' x b := by
  cases x with
  | places => obtain ⟨es, cl, h1, h2⟩ := h; exact ⟨es, cl, hk _ h1 rfl, h2⟩
  | map pk kvs => obtain ⟨h1, h2⟩ := h; exact ⟨hk _ h1 rfl, h2⟩
  | mit mid since seen last => obtain ⟨mb, n, h1, h3, h4⟩ := h; exact ⟨mb, n, hl _ _ h1, hk _ h3 rfl, h4⟩
  | sit s pos => exact hk _ h rfl
theorem ORep.obj {w : World} {loc : Loc} {x : Ob} {b : Nat} (h : ORep w loc x b) : ∃ o, w.heap[b]? = some o ∧ isCells o = false := by
  cases x with
  | places => obtain ⟨es, cl, h1, h2⟩ := h; exact ⟨_, h1, rfl⟩
  | map pk kvs => obtain ⟨h1, h2⟩ := h; exact ⟨_, h1, rfl⟩
  | mit mid since seen last => obtain ⟨mb, n, h1, h3, h4⟩ := h; exact ⟨_, h3, rfl⟩
  | sit s pos => exact ⟨_, h, rfl⟩
theorem Cont.cells {w : World} {loc : Loc} {c : D} {l : Option Nat} {xs : List Value} (h : Cont w base loc c l xs) (hc : ∀ x, c ≠ .obj x) : Rep w base loc c (.agg ⟨xs⟩) ∧ BlkAt w l xs := by
  rcases h with h | ⟨x, b, rfl, _⟩
  · exact h
  · exact absurd rfl (hc x)
/-- What is told of a block stays so: its cells are the same, no object that is no cells is written. -/
theorem Cont.ext {base' : Nat} {w w' : World} {loc loc' : Loc} (hx : Ext base' base w loc w' loc') {c : D} {l : Option Nat} {xs : List Value} (hb : BlkAt w l xs → BlkAt w' l xs) (hk : ∀ b o, l = some b → w.heap[b]? = some o → isCells o = false → w'.heap[b]? = some o) (h : Cont w base loc c l xs) : Cont w' base' loc' c l xs := by
  rcases h with ⟨h1, h2⟩ | ⟨x, b, rfl, h2, h3, h5⟩
  · exact .inl ⟨Rep.ext hx _ _ h1, hb h2⟩
  · exact .inr ⟨x, b, rfl, h2, h3, h5.ext (hk b · h2) hx.keep⟩
theorem Cont.below {base' : Nat} {w w' : World} {loc loc' : Loc} (hx : Ext base' base w loc w' loc') (hbb : RowKit.Below w.heap.size w w') {c : D} {l : Option Nat} {xs : List Value} (h : Cont w base loc c l xs) : Cont w' base' loc' c l xs := by
  refine h.ext hx (fun hb => ?_) fun b o _ ho _ => by rw [hbb.block b (Array.getElem?_eq_some_iff.1 ho).1]; exact ho
  cases l with
  | none => exact hb
  | some b =>
    obtain ⟨k, e, h1, h2⟩ := hb
    exact ⟨k, e, by rw [hbb.block b (Array.getElem?_eq_some_iff.1 h1).1]; exact h1, h2⟩

theorem mapO_rep {f : D → Option D} {w' : World} {B : Nat} {loc' : Loc} (hf : ∀ d d' y, f d = some d' → Rep w base loc d y → Rep w' B loc' d' y) :
    ∀ {ds ds' : List D} {vs : List Value}, mapO f ds = some ds' → RepL w base loc ds vs → RepL w' B loc' ds' vs
  | [], ds', vs, hm, h => by
    simp only [mapO, Option.some.injEq] at hm
    subst hm
    simpa only [RepL] using h
  | d :: ds, ds', vs, hm, h => by
    simp only [mapO] at hm
    split at hm
    · rename_i y hy
      split at hm
      · rename_i ys hys
        simp only [Option.some.injEq] at hm
        subst hm
        simp only [RepL] at h ⊢
        obtain ⟨y0, vs', rfl, h2, h3⟩ := h
        exact ⟨y0, vs', rfl, hf _ _ _ hy h2, mapO_rep hf hys h3⟩
      · simp at hm
    · simp at hm

theorem mapO_length {α β : Type} {f : α → Option β} : ∀ {ds : List α} {ds' : List β}, mapO f ds = some ds' → ds'.length = ds.length
  | [], ds', hm => by simp only [mapO, Option.some.injEq] at hm; subst hm; rfl
  | d :: ds, ds', hm => by
    simp only [mapO] at hm
    split at hm
    · split at hm
      · rename_i ys hys
        simp only [Option.some.injEq] at hm
        subst hm
        simp [mapO_length hys]
      · simp at hm
    · simp at hm

/-- Data for an argument stand for what the value stands for, seen from a place that owns nothing. -/
theorem deep_arg {m : Id → Option D} (hm : MemOk w base loc m) (B : Nat) : ∀ (n : Nat) (d d' : D) (y : Value), deep false [] m n d = some d' → Rep w base loc d y → Rep w B noLoc d' y
  | 0, d, d', y, h, _ => by simp [deep] at h
  | n + 1, d, d', y, h, hr => by
    have ih := deep_arg hm B n
    have hav : ∀ b, noLoc.avoids b := fun b id k => by simp [noLoc]
    cases d with
    | junk => simp only [deep, Option.some.injEq] at h; subst h; simp [Rep]
    | mr _ => simp only [deep, Option.some.injEq] at h; subst h; simp [Rep]
    | obj _ => simp only [deep, reduceCtorEq] at h
    | v x =>
      simp only [deep, Option.some.injEq] at h
      subst h
      simpa only [Rep] using hr
    | ptr id off =>
      simp only [deep, Bool.false_and, cond_false] at h
      split at h
      · rename_i c hc
        split at h
        · rename_i c' hc'
          simp only [Option.some.injEq] at h
          subst h
          simp only [Rep] at hr ⊢
          obtain ⟨b, k, h1, h2⟩ := hr
          obtain ⟨l, xs, g1, g23⟩ := hm id c hc
          obtain ⟨g2, g3⟩ := g23.cells (by rintro x rfl; cases n <;> simp [deep] at hc')
          rw [h1] at g1
          simp only [Option.some.injEq, Prod.mk.injEq] at g1
          obtain ⟨rfl, _⟩ := g1
          exact ⟨b, 0, xs, by rw [h2, Nat.zero_add], At.of_blk g3, hav b, by simp, ih c c' _ hc' g2⟩
        · simp at h
      · simp at h
    | slc full sz id off len =>
      simp only [deep, Bool.false_and, cond_false] at h
      have main : ∀ c c' : D, m id = some c → (∀ x, c ≠ .obj x) → (∀ xs, Rep w base loc c (.agg ⟨xs⟩) → off + len * sz ≤ xs.length → Rep w B noLoc c' (.agg ⟨(xs.drop off).take (len * sz)⟩)) → Rep w B noLoc (.row false sz c' len) y := by
        intro c c' hc hno hcc
        simp only [Rep] at hr ⊢
        obtain ⟨a, cap, l, k, h1, h2, h3, h4, h5, h6⟩ := hr
        obtain ⟨l', xs, g1, g23⟩ := hm id c hc
        obtain ⟨g2, g3⟩ := g23.cells hno
        rw [h3] at g1
        simp only [Option.some.injEq, Prod.mk.injEq] at g1
        obtain ⟨rfl, rfl⟩ := g1
        refine ⟨a, cap, (xs.drop off).take (len * sz), h1, h2, hcc xs g2 h4, by simp; omega, ?_, (by simp)⟩
        cases l with
        | none => exact .inl (by simp [h6.1])
        | some b =>
          obtain ⟨o, k1, k2, k3⟩ := h6
          by_cases hz : len * sz = 0
          · exact .inl hz
          · have hl : len ≠ 0 := fun e => hz (by simp [e])
            refine .inr ⟨b, o, k1, ?_, hav b, by simp⟩
            have := (At.of_blk g3).sub off (len * sz) h4
            rw [Nat.zero_add, ← k2 hl] at this
            rw [← k2 hl]
            exact this
      split at h
      · rename_i a hc
        simp only [Option.some.injEq] at h
        subst h
        refine main _ _ hc (by simp) fun xs hx hl => ?_
        simp only [Rep, Value.agg.injEq] at hx ⊢
        obtain ⟨rfl, hf⟩ := hx
        refine ⟨rfl, ?_⟩
        simp only [Flat, List.all_eq_true] at hf ⊢
        exact fun x hx => hf x (List.mem_of_mem_drop (List.mem_of_mem_take hx))
      · rename_i ds hc
        split at h
        · rename_i ds' hds
          simp only [Option.some.injEq] at h
          subst h
          refine main _ _ hc (by simp) fun xs hx hl => ?_
          simp only [Rep, Value.agg.injEq, Array.mk.injEq] at hx ⊢
          obtain ⟨vs, rfl, h2, h3⟩ := hx
          refine ⟨_, rfl, mapO_rep (fun d d' y => ih d d' y) hds ((h2.drop off).take _), ?_⟩
          simp only [List.all_eq_true] at h3 ⊢
          exact fun x hx => h3 x (List.mem_of_mem_drop (List.mem_of_mem_take hx))
        · simp at h
      · simp at h
    | ref mi c off =>
      simp only [deep, Bool.false_and, cond_false] at h
      split at h
      · rename_i c' hc'
        simp only [Option.some.injEq] at h
        subst h
        simp only [Rep] at hr ⊢
        obtain ⟨b, o, xs, h1, h2, h3, h4, h5⟩ := hr
        exact ⟨b, o, xs, h1, h2, hav b, by simp, ih c c' _ hc' h5⟩
      · simp at h
    | row mi sz c len =>
      simp only [deep, Bool.false_and, cond_false] at h
      split at h
      · rename_i c' hc'
        simp only [Option.some.injEq] at h
        subst h
        simp only [Rep] at hr ⊢
        obtain ⟨a, cap, xs, h1, h2, h3, h4, h5, hO⟩ := hr
        refine ⟨a, cap, xs, h1, h2, ih c c' _ hc' h3, h4, ?_, (by simp)⟩
        rcases h5 with h5 | ⟨b, o, g1, g2, g3, g4⟩
        · exact .inl h5
        · exact .inr ⟨b, o, g1, g2, hav b, by simp⟩
      · simp at h
    | agg ds =>
      simp only [deep] at h
      split at h
      · rename_i ds' hds
        simp only [Option.some.injEq] at h
        subst h
        simp only [Rep] at hr ⊢
        obtain ⟨vs, h1, h2, h3⟩ := hr
        exact ⟨vs, h1, mapO_rep (fun d d' y => ih d d' y) hds h2, h3⟩
      · simp at h
    | tup ds =>
      simp only [deep] at h
      split at h
      · rename_i ds' hds
        simp only [Option.some.injEq] at h
        subst h
        simp only [Rep] at hr ⊢
        obtain ⟨vs, h1, h2⟩ := hr
        exact ⟨vs, h1, mapO_rep (fun d d' y => ih d d' y) hds h2⟩
      · simp at h
    | fn f a b =>
      simp only [deep] at h
      split at h
      · rename_i a' ha
        split at h
        · rename_i b' hb
          simp only [Option.some.injEq] at h
          subst h
          simp only [Rep] at hr ⊢
          obtain ⟨va, vb, h1, h2, h3⟩ := hr
          exact ⟨va, vb, h1, mapO_rep (fun d d' y => ih d d' y) ha h2, mapO_rep (fun d d' y => ih d d' y) hb h3⟩
        · simp at h
      · simp at h

end
end Go.V
