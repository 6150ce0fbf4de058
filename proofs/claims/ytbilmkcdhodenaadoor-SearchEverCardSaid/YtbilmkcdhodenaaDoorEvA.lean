/-
  EV, part A: an abstract interpreter of loaded Go code: values without memory, slices by their contents, own rows and boxed variables in a small abstract heap. Definitions alone.
-/
import Derived.Orders
import Derived.Deep.AppendSrc
import Derived.Laws.Rows
import Derived.Laws.CopyRow
import Derived.Laws.MakeOwn
import Derived.Laws.Entries
set_option linter.all false
set_option linter.unusedSimpArgs false
set_option linter.unusedVariables false
namespace Go.Ev

/-- One cell that leads to nothing that may still be written. 'sl sz nl tight xs': a slice that is only read: sz: an element's cells; nl: is it nil (none: not known); tight: its capacity is its length; xs: its elements, each by its cells. -/
inductive C where
  | int (k : IntKind) (n : Int)
  | bool (b : Bool)
  | str (s : List UInt8)
  | sl (sz : Nat) (nl : Option Bool) (tight : Bool) (xs : List (List C))
  | pnil
  | inil
  | fnil
  deriving Inhabited

/-- A value. 'buf i ep off len': a slice of the own row i, made when the row's age was ep. 'ptr i ep el o': the address of cell o of element el of object i. 'fp cs': the address of cells that are only read. -/
inductive V where
  | junk
  | undef
  | c (x : C)
  | fp (cs : List C)
  | buf (i ep off len : Nat)
  | ptr (i ep el o : Nat)
  | fn (f : FuncId) (caps : List V)
  /-- yield, as an iterator is handed it: object i is a 'yo' -/
  | yl (i : Nat)
  | agg (xs : List V)
  | tup (xs : List V)
  deriving Inhabited

/-- An object: a variable of some cells; a row of elements of sz cells, of age ep; or nothing any more. -/
inductive O where
  | box (cs : List V)
  | mem (sz ep : Nat) (xs : List (List C))
  /-- what a loop over an iterator still wants to be handed; stop: does it say no more at the last one? -/
  | yo (rest : List (List V)) (stop : Bool)
  | gone
  deriving Inhabited

abbrev Fr := List (Nat × V)
abbrev Hp := List O
abbrev CF := FuncId → List V → Hp → Option (List V × Hp)

@[reducible] def V.i (n : Int) : V := .c (.int .i64 n)
@[reducible] def V.b (b : Bool) : V := .c (.bool b)

/-! ## types -/
inductive K where
  | int (k : IntKind) | bool | str
  | slice (e : TypeId) | array (n : Nat) (e : TypeId) | struct (fs : List (Nat × Nat × Bool)) | ptr (e : TypeId)
  | other
  deriving DecidableEq, Inhabited

inductive LK where
  | int | bool | str
  deriving DecidableEq, Inhabited

structure Ty where
  k : K
  size : Nat
  bytes : Nat
  eq : List LK
  zero : List C
  /-- an array's element's zero value (then zero is empty) -/
  el : List C
  deriving Inhabited

def K.agg : K → Bool
  | .struct _ | .array _ _ => true
  | _ => false

/-- A literal cell. -/
def cOf : Value → Option C
  | .int k n => some (.int k n)
  | .bool b => some (.bool b)
  | .string s => some (.str s.data.toList)
  | .slice none 0 0 => some (.sl 0 (some true) true [])
  | .pointer none => some .pnil
  | .nilIface => some .inil
  | .nilFunc => some .fnil
  | _ => none

def cOfL : List Value → Option (List C)
  | [] => some []
  | v :: r => match cOf v, cOfL r with
    | some x, some l => some (x :: l)
    | _, _ => none

def sizeAt (P : Program) (t : TypeId) : Nat := ((P.info? t).map (·.size)).getD 0
def aggAt (P : Program) (t : TypeId) : Bool := match P.underlying t with | some (.struct _) | some (.array _ _) => true | _ => false

def kOf (P : Program) : TypeDesc → K
  | .int k => .int k
  | .bool => .bool
  | .string => .str
  | .slice e => .slice e
  | .array n e => .array n e
  | .struct fs => .struct (fs.toList.map fun f => (f.offset, sizeAt P f.type, aggAt P f.type))
  | .pointer e => .ptr e
  | _ => .other

def laidOut (P : Program) : Nat → List Field → Nat → Bool
  | off, [], n => off == n
  | off, f :: r, n => f.offset == off && laidOut P (off + sizeAt P f.type) r n
/-- The kinds of the cells of a type whose values may be compared cell by cell. -/
def appAll {α : Type} : List (Option (List α)) → Option (List α)
  | [] => some []
  | x :: r => match x, appAll r with
    | some a, some b => some (a ++ b)
    | _, _ => none
def eqAt (P : Program) : Nat → TypeId → Option (List LK)
  | 0, _ => none
  | d + 1, t => match P.info? t, P.underlying t with
    | some _, some .bool => if sizeAt P t = 1 then some [.bool] else none
    | some _, some (.int _) => if sizeAt P t = 1 then some [.int] else none
    | some _, some .string => if sizeAt P t = 1 then some [.str] else none
    | some _, some (.struct fs) =>
      if P.stoodInHeld t = false ∧ laidOut P 0 fs.toList (sizeAt P t) = true ∧ (fs.toList.all fun f => f.name != "_") = true then appAll (fs.toList.map fun f => eqAt P d f.type) else none
    | _, _ => none
def eqOf (P : Program) (t : TypeId) : List LK := match eqAt P 8 t with
  | some l => if P.eqGuardType P.depth t then [] else l
  | none => []

/-- Sure to be one. -/
def C.one : C → C → Bool
  | .int k n, .int k' n' => k == k' && n == n'
  | .bool a, .bool b => a == b
  | .str a, .str b => a == b
  | .pnil, .pnil | .inil, .inil | .fnil, .fnil => true
  | .sl 0 (some true) true [], .sl 0 (some true) true [] => true
  | _, _ => false
def oneL : List C → List C → Bool
  | [], [] => true
  | x :: r, y :: s => x.one y && oneL r s
  | _, _ => false
theorem C.one_eq {x y : C} (h : x.one y = true) : x = y := by
  unfold C.one at h
  split at h <;> simp_all
theorem oneL_eq : ∀ {l m : List C}, oneL l m = true → l = m
  | [], [], _ => rfl
  | x :: r, y :: s, h => by
    simp only [oneL, Bool.and_eq_true] at h
    rw [C.one_eq h.1, oneL_eq h.2]
  | [], _ :: _, h => by simp [oneL] at h
  | _ :: _, [], h => by simp [oneL] at h

/-- A nil slice, of elements of so many cells. -/
def C.fix (z : Nat) : C → C
  | .sl n nl t xs => match n with
    | 0 => match xs with
      | [] => .sl z nl t []
      | y :: ys => .sl 0 nl t (y :: ys)
    | n + 1 => .sl (n + 1) nl t xs
  | c => c
/-- No more is known of a slice than what it holds. -/
def C.weak (z : Nat) : C → C
  | .sl n _ _ xs => match n with
    | 0 => match xs with
      | [] => .sl z none false []
      | y :: ys => .sl 0 none false (y :: ys)
    | n + 1 => .sl (n + 1) none false xs
  | c => c
def fixTags : List Nat → List C → List C
  | z :: r, x :: l => x.fix z :: fixTags r l
  | _, l => l
def V.map1 (f : Nat → C → C) (z : Nat) : V → V
  | .c x => .c (f z x)
  | v => v
def mapTags (f : Nat → C → C) : List Nat → List V → List V
  | z :: r, v :: l => v.map1 f z :: mapTags f r l
  | _, l => l
def V.mapT (f : Nat → C → C) (tags : List Nat) : V → V
  | .agg xs => .agg (mapTags f tags xs)
  | .c x => match tags with
    | z :: _ => .c (f z x)
    | [] => .c x
  | v => v
def mapTL (f : Nat → C → C) : List (List Nat) → List V → List V
  | t :: r, v :: l => v.mapT f t :: mapTL f r l
  | _, l => l
/-- The sizes of the elements of a type's slices, cell by cell. -/
def tagsAt (P : Program) : Nat → TypeId → List Nat
  | 0, _ => []
  | d + 1, t => match P.underlying t with
    | some (.slice e) => [sizeAt P e]
    | some (.struct fs) => fs.toList.flatMap fun f => tagsAt P d f.type
    | some (.array n e) => (List.replicate n (tagsAt P d e)).flatten
    | some _ => List.replicate (sizeAt P t) 0
    | none => []

def fieldsOk (P : Program) : TypeDesc → Bool
  | .struct fs => fs.toList.all fun f => (P.info? f.type).isSome && (P.underlying f.type).isSome
  | _ => true

/-- What the program says of a type; an array's zero value is told by its element's alone. -/
def tyOf (P : Program) (t : TypeId) : Option Ty :=
  match P.info? t, P.underlying t with
  | some i, some d =>
    match d with
    | .array n e =>
      match P.info? e, i.zero with
      | some j, some z =>
        match j.zero with
        | some ze => match cOfL ze.cells.toList, cOfL z.cells.toList with
          | some l, some lz => if j.size = l.length ∧ i.size = n * l.length ∧ oneL lz (List.replicate n l).flatten = true then some ⟨kOf P d, i.size, i.bytes, eqOf P t, [], fixTags (tagsAt P 9 e) l⟩ else none
          | _, _ => none
        | none => none
      | _, _ => none
    | _ =>
      match i.zero with
      | some z => match cOfL z.cells.toList with
        | some l => if l.length = i.size ∧ fieldsOk P d = true then some ⟨kOf P d, i.size, i.bytes, eqOf P t, fixTags (tagsAt P 9 t) l, []⟩ else none
        | none => none
      | none => none
  | _, _ => none

/-! ## frames, operands -/
def get : Fr → Nat → Option V
  | [], _ => none
  | (k, v) :: r, t => if t = k then some v else get r t

def opd (fr : Fr) : Operand → Option V
  | .tmp t => get fr t
  | .const v => match cOf v with | some x => some (.c x) | none => none
  | .func f => some (.fn f [])
  | .global _ => none

def opdL (fr : Fr) : List Operand → Option (List V)
  | [] => some []
  | x :: r => match opd fr x, opdL fr r with
    | some v, some l => some (v :: l)
    | _, _ => none

def opdP (fr : Fr) : List (Nat × Operand) → Option (List (Nat × V))
  | [] => some []
  | (i, x) :: r => match opd fr x, opdP fr r with
    | some v, some l => some ((i, v) :: l)
    | _, _ => none

def V.cells : V → List V
  | .agg xs => xs
  | v => [v]
/-- Surely one cell. -/
def V.one : V → Bool
  | .agg _ | .tup _ | .undef | .junk => false
  | _ => true

def pureL : List V → Option (List C)
  | [] => some []
  | .c x :: r => match pureL r with | some l => some (x :: l) | none => none
  | _ :: _ => none

/-- Some cells as a value. -/
def ofCells (agg : Bool) (xs : List V) : Option V :=
  if agg then some (.agg xs) else match xs with | [x] => some x | _ => none

def part {α : Type} (xs : List α) (off size : Nat) : Option (List α) :=
  if off + size ≤ xs.length then some ((xs.drop off).take size) else none
def splice {α : Type} (l : List α) (o : Nat) (ys : List α) : List α := l.take o ++ ys ++ l.drop (o + ys.length)

/-! ## operations without a call -/
def eqC : LK → C → C → Option Bool
  | .int, .int k a, .int k' b => if k = k' then some (a == b) else none
  | .bool, .bool a, .bool b => some (a == b)
  | .str, .str a, .str b => some (a == b)
  | _, _, _ => none
def eqL : List LK → List V → List V → Option Bool
  | [], [], [] => some true
  | k :: ks, .c x :: r, .c y :: s => match eqC k x y, eqL ks r s with
    | some a, some b => some (a && b)
    | _, _ => none
  | _, _, _ => none

def isNilP : V → Option Bool
  | .c .pnil => some true
  | .fp _ | .ptr .. => some false
  | _ => none
def isNilS : V → Option Bool
  | .c (.sl _ nl _ xs) => match nl with
    | some b => some b
    | none => match xs with | [] => none | _ :: _ => some false
  | _ => none

def eqV (y : Ty) (a b : V) : Option Bool :=
  match a, b with
  | .agg xs, .agg ys => if y.eq ≠ [] ∧ y.k.agg = true then eqL y.eq xs ys else none
  | .c .pnil, b => match y.k with | .ptr _ => isNilP b | _ => none
  | a, .c .pnil => match y.k with | .ptr _ => isNilP a | _ => none
  | a, .c (.sl _ (some true) true []) => match y.k with | .slice _ => isNilS a | _ => none
  | _, _ => none

def intBin (op : BinOp) (k : IntKind) (x y : Int) : Option C :=
  match op with
  | .add => some (.int k (k.wrap (x + y)))
  | .sub => some (.int k (k.wrap (x - y)))
  | .mul => some (.int k (k.wrap (x * y)))
  | .quo => if y = 0 then none else some (.int k (k.wrap (x.tdiv y)))
  | .rem => if y = 0 then none else some (.int k (x.tmod y))
  | .and => some (.int k (Go.bits .and k x y))
  | .or => some (.int k (Go.bits .or k x y))
  | .xor => some (.int k (Go.bits .xor k x y))
  | .andNot => some (.int k (Go.bits .andNot k x y))
  | .eql => some (.bool (x == y))
  | .neq => some (.bool (x != y))
  | .lss => some (.bool (decide (x < y)))
  | .leq => some (.bool (decide (x ≤ y)))
  | .gtr => some (.bool (decide (y < x)))
  | .geq => some (.bool (decide (y ≤ x)))
  | _ => none

def strBin (op : BinOp) (x y : List UInt8) : Option C :=
  match op with
  | .add => if x.length + y.length < 4294967296 then some (.str (x ++ y)) else none
  | .eql => some (.bool (x == y))
  | .neq => some (.bool (!(x == y)))
  | .lss => some (.bool (Op.bytesLess x y))
  | .leq => some (.bool (Op.bytesLess x y || x == y))
  | .gtr => some (.bool (!(Op.bytesLess x y || x == y)))
  | .geq => some (.bool (!Op.bytesLess x y))
  | _ => none

def bin (T : TypeId → Option Ty) (op : BinOp) (t : TypeId) (a b : V) : Option V :=
  match a, b with
  | .c (.int k x), .c (.int k' y) => match op with
    | .shl => if 0 ≤ y then some (.c (.int k (k.wrap (x * 2 ^ min y.toNat k.bits)))) else none
    | .shr => if 0 ≤ y then some (.c (.int k (x / 2 ^ min y.toNat k.bits))) else none
    | _ => if k = k' then (intBin op k x y).map .c else none
  | .c (.str x), .c (.str y) => (strBin op x y).map .c
  | .c (.bool x), .c (.bool y) => match T t with
    | some ⟨.bool, _, _, _, _, _⟩ => (match op with | .eql => some (.b (x == y)) | .neq => some (.b (!(x == y))) | _ => none)
    | _ => none
  | a, b => match T t with
    | some y => match op with
      | .eql => (eqV y a b).map .b
      | .neq => (eqV y a b).map fun r => .b (!r)
      | _ => none
    | none => none

def un (op : UnOp) (a : V) : Option V :=
  match op, a with
  | .neg, .c (.int k n) => some (.c (.int k (k.wrap (0 - n))))
  | .not, .c (.bool b) => some (.b (!b))
  | _, _ => none

def conv (T : TypeId → Option Ty) (src dst : TypeId) (a : V) : Option V :=
  match T src, T dst, a with
  | some _, some ⟨.int k, _, _, _, _, _⟩, .c (.int _ n) => some (.c (.int k (k.wrap n)))
  | some ⟨.str, _, _, _, _, _⟩, some ⟨.str, _, _, _, _, _⟩, .c (.str s) => some (.c (.str s))
  | _, _, _ => none

def placeOf (fs : List (Nat × Nat × Bool)) (i : Nat) : Option (Nat × Nat) := (fs[i]?).map fun x => (x.1, x.2.1)
def fillP (place : Nat → Option (Nat × Nat)) (cells : List V) : List (Nat × V) → Option (List V)
  | [] => some cells
  | (i, v) :: rest => match place i with
    | some (off, size) => if v.cells.length = size ∧ off + size ≤ cells.length ∧ v.cells.all V.one = true then fillP place (splice cells off v.cells) rest else none
    | none => none

def bnd (fr : Fr) : Option Operand → Option (Option Nat)
  | none => some none
  | some x => match opd fr x with
    | some (.c (.int _ n)) => if 0 ≤ n then some (some n.toNat) else none
    | _ => none

/-- Elements out of cells, so many each. -/
def chunk (sz : Nat) : Nat → List C → List (List C)
  | 0, _ => []
  | n + 1, l => l.take sz :: chunk sz n (l.drop sz)

def srcOf (hp : Hp) (sz : Nat) : V → Option (List (List C))
  | .c (.sl z _ _ xs) => if z = sz then some xs else match xs with | [] => some [] | _ :: _ => none
  | .c (.str s) => if sz = 1 then some (s.map fun b => [C.int .u8 b.toNat]) else none
  | .buf i ep off len => match hp[i]? with
    | some (.mem z e xs) => if z = sz ∧ e = ep then some ((xs.drop off).take len) else none
    | _ => none
  | _ => none

/-- append: the value, the heap, its class (2: something new; 3: something is changed). -/
def appendV (sz : Nat) (hp : Hp) (dst src : V) : Option (V × Hp × Nat) :=
  match srcOf hp sz src with
  | none => none
  | some ys => match dst with
    | .c (.sl z _ true xs) =>
      if (z = sz ∨ xs = []) ∧ (xs = [] ∨ ys ≠ []) ∧ xs.length + ys.length < 4294967296 then
        some (.buf hp.length 0 0 (xs.length + ys.length), hp ++ [.mem sz 0 (xs ++ ys)], 2)
      else none
    | .buf i ep off len => match hp[i]? with
      | some (.mem z e xs) =>
        if z = sz ∧ e = ep ∧ len + ys.length < 4294967296 then
          some (.buf i (ep + 1) 0 (len + ys.length), hp.set i (.mem sz (ep + 1) ((xs.drop off).take len ++ ys)), 3)
        else none
      | _ => none
    | _ => none

def minMax (gt : Bool) : V → List V → Option V
  | v, [] => some v
  | .c (.int k x), .c (.int k' y) :: r => if k = k' then minMax gt (.c (.int k (if (if gt then x < y else y < x) then y else x))) r else none
  | _, _ :: _ => none

def lenV (T : TypeId → Option Ty) (hp : Hp) (t : TypeId) (x : V) : Option Nat :=
  match T t with
  | none => none
  | some y => match y.k, x with
    | .str, .c (.str s) => some s.length
    | .slice _, .c (.sl _ _ _ l) => some l.length
    | .slice _, .buf i ep _ n => match hp[i]? with
      | some (.mem _ e _) => if e = ep then some n else none
      | _ => none
    | .array n _, _ => some n
    | .ptr e, _ => match T e with
      | some ye => match ye.k with | .array n _ => some n | _ => none
      | none => none
    | _, _ => none

def K.src : K → Bool
  | .slice _ | .str => true
  | _ => false
def appB (T : TypeId → Option Ty) (hp : Hp) (t tx : TypeId) (d s : V) : Option (V × Hp × Nat) :=
  match T t, T tx with
  | some y, some yx => match y.k with
    | .slice e => match T e with
      | some ye => if ye.bytes ≤ 4096 ∧ ye.zero.length = ye.size ∧ yx.k.src = true then appendV ye.size hp d s else none
      | none => none
    | _ => none
  | _, _ => none

abbrev R0 := Option (V × Hp × Nat)
def pureR (hp : Hp) (v : Option V) : R0 := match v with
  | some x => some (x, hp, 0)
  | none => none
/-- A slice's capacity: known where it is tight. -/
def capV (T : TypeId → Option Ty) (t : TypeId) : V → Option V
  | .c (.sl _ _ true xs) => match T t with
    | some y => match y.k with
      | .slice _ => some (.i xs.length)
      | _ => none
    | none => none
  | _ => none
def bltn (T : TypeId → Option Ty) (hp : Hp) (b : Builtin) (ts : List TypeId) (xs : List V) : Option (V × Hp × Nat) :=
  match b with
  | .len => match ts, xs with
    | [t], [x] => match lenV T hp t x with
      | some n => some (.i n, hp, match x with | .buf .. => 1 | _ => 0)
      | none => none
    | _, _ => none
  | .append => match ts, xs with
    | [t, tx], [d, s] => appB T hp t tx d s
    | _, _ => none
  | .cap => match ts, xs with
    | [t], [x] => pureR hp (capV T t x)
    | _, _ => none
  | .max => match xs with
    | x :: r => match minMax true x r with | some v => some (v, hp, 0) | none => none
    | [] => none
  | .min => match xs with
    | x :: r => match minMax false x r with | some v => some (v, hp, 0) | none => none
    | [] => none
  | _ => none

def loadV (hp : Hp) (y : Ty) : V → Option V
  | .fp cs => match part cs 0 y.size with
    | some l => ofCells y.k.agg (l.map .c)
    | none => none
  | .ptr i ep el o => match hp[i]? with
    | some (.box cs) => if el = 0 then (match part cs o y.size with | some l => ofCells y.k.agg l | none => none) else none
    | some (.mem _ e xs) => if e = ep then (match xs[el]? with
      | some cs => (match part cs o y.size with | some l => ofCells y.k.agg (l.map .c) | none => none)
      | none => none) else none
    | _ => none
  | _ => none

def storeV (hp : Hp) (y : Ty) (a x : V) : Option Hp :=
  match a with
  | .ptr i ep el o => match hp[i]? with
    | some (.box cs) => if el = 0 ∧ x.cells.length = y.size ∧ o + y.size ≤ cs.length ∧ x.cells.all V.one = true then some (hp.set i (.box (splice cs o x.cells))) else none
    | some (.mem z e xs) => if e = ep then (match xs[el]?, pureL x.cells with
      | some cs, some l => if l.length = y.size ∧ o + y.size ≤ cs.length then some (hp.set i (.mem z e (xs.set el (splice cs o l)))) else none
      | _, _ => none) else none
    | _ => none
  | _ => none


def ownD (own : Nat → Bool) : Option Nat → Bool
  | some d => own d
  | none => false

/-- A nil slice with which an own row begins. -/
def nilRow (T : TypeId → Option Ty) (hp : Hp) (t : TypeId) : R0 := match T t with
  | none => none
  | some y => match y.k with
    | .slice e => match T e with
      | some ye => some (.buf hp.length 0 0 0, hp ++ [.mem ye.size 0 []], 2)
      | none => none
    | _ => none
def moveV (T : TypeId → Option Ty) (ow : Bool) (hp : Hp) (t : TypeId) (v : V) : R0 :=
  match v with
  | .c (.sl 0 (some true) true []) => match ow with
    | true => nilRow T hp t
    | false => match T t with
      | some ⟨.slice e, _, _, _, _, _⟩ => match T e with
        | some ye => some (.c (.sl ye.size (some true) true []), hp, 0)
        | none => some (.c (.sl 0 (some true) true []), hp, 0)
      | _ => some (.c (.sl 0 (some true) true []), hp, 0)
  | v => some (v, hp, 0)

def nilOnly : List C → Bool
  | [.sl _ (some true) true []] => true
  | _ => false
def allocV (T : TypeId → Option Ty) (ow : Bool) (hp : Hp) (t : TypeId) : R0 := match T t with
  | none => none
  | some y => match y.k with
    | .array n _ => if y.el.length ≠ 0 then some (.ptr hp.length 0 0 0, hp ++ [.mem y.el.length 0 (List.replicate n y.el)], 2) else none
    | .slice e =>
      if ow then match T e with
        | some ye => if nilOnly y.zero = true then some (.ptr (hp.length + 1) 0 0 0, hp ++ [.mem ye.size 0 []] ++ [.box [.buf hp.length 0 0 0]], 2) else none
        | none => none
      else some (.ptr hp.length 0 0 0, hp ++ [.box (y.zero.map .c)], 2)
    | _ => some (.ptr hp.length 0 0 0, hp ++ [.box (y.zero.map .c)], 2)

def boxV (hp : Hp) (v : V) : R0 := if v.cells.all V.one = true then some (.ptr hp.length 0 0 0, hp ++ [.box v.cells], 2) else none

def buildV (T : TypeId → Option Ty) (hp : Hp) (t : TypeId) (l : List (Nat × V)) : R0 := match T t with
  | none => none
  | some y => match y.k with
    | .struct fs => match fillP (placeOf fs) (y.zero.map .c) l with
      | some cs => some (.agg cs, hp, 0)
      | none => none
    | _ => none

/-- ow: does an own row begin here? -/
def laid (ow : Bool) (hp : Hp) (sz n : Nat) (l : List (List C)) : R0 :=
  if ow then some (.buf hp.length 0 0 n, hp ++ [.mem sz 0 l], 2) else some (.c (.sl sz (some false) true l), hp, 0)
def buildSliceV (T : TypeId → Option Ty) (ow : Bool) (hp : Hp) (t : TypeId) (n : Nat) (l : List (Nat × V)) : R0 := match T t with
  | none => none
  | some y => match y.k with
    | .slice e => match T e with
      | none => none
      | some ye =>
        if n * ye.size ≤ 65536 ∧ ye.zero.length = ye.size then
          match fillP (fun i => some (i * ye.size, ye.size)) ((List.replicate n ye.zero).flatten.map .c) l with
          | some cs => match pureL cs with
            | some cs => laid ow hp ye.size n (chunk ye.size n cs)
            | none => none
          | none => none
        else none
    | _ => none

def nilCheckV (hp : Hp) : V → R0
  | .ptr i e l o => some (.ptr i e l o, hp, 0)
  | .fp cs => some (.fp cs, hp, 0)
  | _ => none

def makeSliceV (T : TypeId → Option Ty) (hp : Hp) (t : TypeId) (n c : V) : R0 := match T t with
  | none => none
  | some y => match y.k with
    | .slice e => match T e with
      | none => none
      | some ye => match n, c with
        | .c (.int _ l), .c (.int _ m) =>
          if 0 ≤ l ∧ l ≤ m ∧ m < 4294967296 ∧ ye.bytes ≤ 4096 ∧ ye.zero.length = ye.size then
            some (.buf hp.length 0 0 l.toNat, hp ++ [.mem ye.size 0 (List.replicate l.toNat ye.zero)], 2)
          else none
        | _, _ => none
    | _ => none

def cutTight (mx : Option Nat) (b : Bool) : Bool := match mx with | some _ => true | none => b
def sliceV (T : TypeId → Option Ty) (hp : Hp) (t : TypeId) (x : V) (lo hi mx : Option Nat) : R0 := match T t with
  | none => none
  | some y => match y.k, x with
    | .str, .c (.str s) => match mx with
      | none => if lo.getD 0 ≤ hi.getD s.length ∧ hi.getD s.length ≤ s.length then some (.c (.str ((s.take (hi.getD s.length)).drop (lo.getD 0))), hp, 0) else none
      | some _ => none
    | .slice e, .c (.sl z nl ti xs) => match T e with
      | none => none
      | some ye =>
        if lo.getD 0 ≤ hi.getD xs.length ∧ hi.getD xs.length ≤ xs.length ∧ (mx = none ∨ (mx = some (hi.getD xs.length) ∧ hi ≠ none)) ∧ (z = ye.size ∨ xs = []) then
          some (.c (.sl z nl (cutTight mx (ti && decide (hi.getD xs.length = xs.length))) ((xs.take (hi.getD xs.length)).drop (lo.getD 0))), hp, 0)
        else none
    | .slice e, .buf i ep off len => match T e, hp[i]? with
      | some ye, some (.mem z ep' _) =>
        if lo.getD 0 ≤ hi.getD len ∧ hi.getD len ≤ len ∧ (mx = none ∨ (mx = some (hi.getD len) ∧ hi ≠ none)) ∧ z = ye.size ∧ ep' = ep then some (.buf i ep (off + lo.getD 0) (hi.getD len - lo.getD 0), hp, 1) else none
      | _, _ => none
    | _, _ => none

def fieldAddrV (T : TypeId → Option Ty) (hp : Hp) (s : TypeId) (x : V) (f : Nat) : R0 := match T s with
  | none => none
  | some y => match y.k with
    | .struct fs => match fs[f]? with
      | none => none
      | some q => if q.2.1 ≠ 0 then match x with
          | .ptr i ep el o => some (.ptr i ep el (o + q.1), hp, 0)
          | .fp cs => some (.fp (cs.drop q.1), hp, 0)
          | _ => none
        else none
    | _ => none

def fieldV (T : TypeId → Option Ty) (hp : Hp) (s : TypeId) (x : V) (f : Nat) : R0 := match T s with
  | none => none
  | some y => match y.k, x with
    | .struct fs, .agg xs => match fs[f]? with
      | none => none
      | some q => match part xs q.1 q.2.1 with
        | some l => pureR hp (ofCells q.2.2 l)
        | none => none
    | _, _ => none

def indexAddrV (T : TypeId → Option Ty) (hp : Hp) (t : TypeId) (x ix : V) : R0 := match ix with
  | .c (.int _ n) => if 0 ≤ n then match T t with
      | none => none
      | some y => match y.k with
        | .slice e => match T e with
          | none => none
          | some ye => match x with
            | .c (.sl z _ _ xs) => if z = ye.size then match xs[n.toNat]? with
                | some cs => some (.fp cs, hp, 0)
                | none => none
              else none
            | .buf i ep off len => match hp[i]? with
              | some (.mem z ep' _) => if n < len ∧ z = ye.size ∧ ep' = ep then some (.ptr i ep (off + n.toNat) 0, hp, 1) else none
              | _ => none
            | _ => none
        | .array m e => match T e with
          | none => none
          | some ye => if n < m then match x with
              | .ptr i ep el o => match hp[i]? with
                | some (.mem z _ _) => if el = 0 ∧ o = 0 ∧ z = ye.size then some (.ptr i ep n.toNat 0, hp, 1) else none
                | some (.box _) => some (.ptr i ep el (o + n.toNat * ye.size), hp, 1)
                | _ => none
              | _ => none
            else none
        | _ => none
    else none
  | _ => none

def indexV (T : TypeId → Option Ty) (hp : Hp) (t : TypeId) (x ix : V) : R0 := match ix with
  | .c (.int _ n) => if 0 ≤ n then match T t with
      | none => none
      | some y => match y.k, x with
        | .str, .c (.str s) => match s[n.toNat]? with
          | some b => some (.c (.int .u8 b.toNat), hp, 0)
          | none => none
        | .array m e, .agg xs => if n < m then match T e with
            | some ye => match part xs (n.toNat * ye.size) ye.size with
              | some l => pureR hp (ofCells ye.k.agg l)
              | none => none
            | none => none
          else none
        | _, _ => none
    else none
  | _ => none

def loadR (T : TypeId → Option Ty) (hp : Hp) (t : TypeId) (v : V) : R0 := match T t with
  | none => none
  | some y => match loadV hp y v with
    | some x => some (x, hp, match v with | .ptr .. => 1 | _ => 0)
    | none => none
def storeR (T : TypeId → Option Ty) (hp : Hp) (t : TypeId) (v u : V) : R0 := match T t with
  | none => none
  | some y => match storeV hp y v u with
    | some hp' => some (.undef, hp', 3)
    | none => none

/-- One operation that is no call of a Go function: its value, the heap behind it, its class (0: the same over every heap; 1: it reads; 2: it makes; 3: it writes; 4: whatever). own: does a nil slice laid here begin an own row? -/
def op0 (T : TypeId → Option Ty) (own : Nat → Bool) (fr : Fr) (hp : Hp) (o : Oper) : R0 :=
  match o.op with
  | .move x => match opd fr x with
    | some v => moveV T (ownD own o.dst) hp o.type v
    | none => none
  | .assign x => match opd fr x with
    | some v => moveV T (ownD own o.dst) hp o.type v
    | none => none
  | .pick c a b => match opd fr c with
    | some (.c (.bool t)) => pureR hp (if t then opd fr a else opd fr b)
    | _ => none
  | .box _ x => match opd fr x with
    | some v => boxV hp v
    | none => none
  | .alloc t => allocV T (ownD own o.dst) hp t
  | .build t ps => match opdP fr ps.toList with
    | some l => buildV T hp t l
    | none => none
  | .buildSlice t n ps => match opdP fr ps.toList with
    | some l => buildSliceV T (ownD own o.dst) hp t n l
    | none => none
  | .load t a => match opd fr a with
    | some v => loadR T hp t v
    | none => none
  | .store t a x => match opd fr a, opd fr x with
    | some v, some u => storeR T hp t v u
    | _, _ => none
  | .nilCheck x => match opd fr x with
    | some v => nilCheckV hp v
    | none => none
  | .binOp op t x y _ => match opd fr x, opd fr y with
    | some a, some b => pureR hp (bin T op t a b)
    | _, _ => none
  | .unOp op _ x => match opd fr x with
    | some a => pureR hp (un op a)
    | none => none
  | .convert s d x => match opd fr x with
    | some a => pureR hp (conv T s d a)
    | none => none
  | .makeFunc (.func f) first caps => if first.size = 0 then match opdL fr caps.toList with
      | some l => some (.fn f l, hp, 0)
      | none => none
    else none
  | .makeSlice t n c => match opd fr n, opd fr c with
    | some l, some m => makeSliceV T hp t l m
    | _, _ => none
  | .slice t x lo hi mx => match opd fr x, bnd fr lo, bnd fr hi, bnd fr mx with
    | some v, some lo, some hi, some mx => sliceV T hp t v lo hi mx
    | _, _, _, _ => none
  | .fieldAddr s x f => match opd fr x with
    | some v => fieldAddrV T hp s v f
    | none => none
  | .field s x f => match opd fr x with
    | some v => fieldV T hp s v f
    | none => none
  | .indexAddr t x ix => match opd fr x, opd fr ix with
    | some v, some i => indexAddrV T hp t v i
    | _, _ => none
  | .index t x ix => match opd fr x, opd fr ix with
    | some v, some i => indexV T hp t v i
    | _, _ => none
  | .extract x i => match opd fr x with
    | some (.tup vs) => pureR hp vs[i]?
    | _ => none
  | .call ⟨.builtin b, args, ts⟩ => match opdL fr args.toList with
    | some l => bltn T hp b ts.toList l
    | none => none
  | _ => none

/-! ## renaming, freezing, what is reached -/
mutual
def V.ren (ρ : Nat → Option Nat) : V → V
  | .buf i ep off len => match ρ i with | some j => .buf j ep off len | none => .junk
  | .ptr i ep el o => match ρ i with | some j => .ptr j ep el o | none => .junk
  | .fn f caps => .fn f (renL ρ caps)
  | .yl i => match ρ i with | some j => .yl j | none => .junk
  | .agg xs => .agg (renL ρ xs)
  | .tup xs => .tup (renL ρ xs)
  | .junk => .junk | .undef => .undef | .c x => .c x | .fp cs => .fp cs
def renL (ρ : Nat → Option Nat) : List V → List V
  | [] => []
  | v :: r => v.ren ρ :: renL ρ r
end
def O.ren (ρ : Nat → Option Nat) : O → O
  | .box cs => .box (renL ρ cs)
  | o => o

mutual
def V.ids : V → List Nat
  | .buf i _ _ _ | .ptr i _ _ _ => [i]
  | .yl i => [i]
  | .fn _ caps => idsL caps
  | .agg xs | .tup xs => idsL xs
  | .junk | .undef | .c _ | .fp _ => []
def idsL : List V → List Nat
  | [] => []
  | v :: r => v.ids ++ idsL r
end
def O.ids : O → List Nat
  | .box cs => idsL cs
  | _ => []

/-- The own rows p, from now on only read. -/
def frz1 (hp : Hp) (i ep off len : Nat) : V := match hp[i]? with
  | some (.mem z e xs) => if e = ep then .c (.sl z none false ((xs.drop off).take len)) else .junk
  | _ => .junk
mutual
def V.frz (hp : Hp) (p : Nat → Bool) : V → V
  | .buf i ep off len => if p i then frz1 hp i ep off len else .buf i ep off len
  | .ptr i ep el o => if p i then .junk else .ptr i ep el o
  | .fn f caps => .fn f (frzL hp p caps)
  | .yl i => .yl i
  | .agg xs => .agg (frzL hp p xs)
  | .tup xs => .tup (frzL hp p xs)
  | .junk => .junk | .undef => .undef | .c x => .c x | .fp cs => .fp cs
def frzL (hp : Hp) (p : Nat → Bool) : List V → List V
  | [] => []
  | v :: r => v.frz hp p :: frzL hp p r
end
def O.frz (hp : Hp) (p : Nat → Bool) : O → O
  | .box cs => .box (frzL hp p cs)
  | o => o

/-- The heap, the own rows p being only read from now on. -/
def frzK (p : Nat → Bool) (hp : Hp) : Nat → Hp → Hp
  | _, [] => []
  | k, o :: r => (if p k then .gone else o.frz hp p) :: frzK p hp (k + 1) r
def frzH (p : Nat → Bool) (hp : Hp) : Hp := frzK p hp 0 hp
def frzF (hp : Hp) (p : Nat → Bool) : Fr → Fr
  | [] => []
  | (t, v) :: r => (t, v.frz hp p) :: frzF hp p r

/-- The objects that are reached, in order. -/
def reach (hp : Hp) : Nat → List Nat → List Nat → List Nat
  | 0, _, seen => seen
  | _, [], seen => seen
  | k + 1, i :: todo, seen =>
    if seen.contains i then reach hp k todo seen
    else reach hp k ((match hp[i]? with | some o => o.ids | none => []) ++ todo) (seen ++ [i])

def idx (l : List Nat) (i : Nat) : Option Nat := match l with
  | [] => none
  | j :: r => if i = j then some 0 else match idx r i with | some k => some (k + 1) | none => none

/-- Some objects, in this order, as a heap of their own. -/
def take (keep : List Nat) (hp : Hp) : List Nat → Option Hp
  | [] => some []
  | i :: r => match hp[i]?, take keep hp r with
    | some o, some l => some (o.ren (idx keep) :: l)
    | _, _ => none

def distinct : List Nat → Bool
  | [] => true
  | i :: r => !r.contains i && distinct r

/-- What nothing leads to falls away, but for the first m objects. -/
def gcK (m : Nat) (roots : List Nat) (hp : Hp) : List Nat :=
  let seen := reach hp (2 * hp.length + roots.length + 40) (roots ++ idsH (hp.take m)) []
  List.range m ++ (List.range hp.length).filter fun i => decide (m ≤ i) && seen.contains i
where
  idsH : Hp → List Nat
    | [] => []
    | o :: r => o.ids ++ idsH r

/-! ## young again: the ages of the own rows behind the first m objects begin anew -/
def ageI (m : Nat) (H : Hp) (i ep : Nat) : Option Nat := if i < m then some ep else match H[i]? with
  | some (.mem _ e _) => if e = ep then some 0 else none
  | _ => some ep
mutual
def V.young (m : Nat) (H : Hp) : V → V
  | .buf i ep off len => match ageI m H i ep with | some e => .buf i e off len | none => .junk
  | .ptr i ep el o => match ageI m H i ep with | some e => .ptr i e el o | none => .junk
  | .fn f caps => .fn f (youngL m H caps)
  | .yl i => .yl i
  | .agg xs => .agg (youngL m H xs)
  | .tup xs => .tup (youngL m H xs)
  | .junk => .junk | .undef => .undef | .c x => .c x | .fp cs => .fp cs
def youngL (m : Nat) (H : Hp) : List V → List V
  | [] => []
  | v :: r => v.young m H :: youngL m H r
end
def O.young (m : Nat) (H : Hp) (i : Nat) : O → O
  | .box cs => .box (youngL m H cs)
  | .mem z e xs => .mem z (if i < m then e else 0) xs
  | .yo r s => .yo r s
  | .gone => .gone
def youngK (m : Nat) (H : Hp) : Nat → Hp → Hp
  | _, [] => []
  | k, o :: r => o.young m H k :: youngK m H (k + 1) r
def youngF (m : Nat) (H : Hp) : Fr → Fr
  | [] => []
  | (t, v) :: r => (t, v.young m H) :: youngF m H r

/-! ## a call -/
def V.flat : V → Bool
  | .c (.int ..) | .c (.bool _) | .c (.str _) => true
  | _ => false
def flatL : List V → Bool
  | [] => true
  | v :: r => v.flat && flatL r

/-- The own rows among some values. -/
def V.bufIds : V → List Nat
  | .buf i _ _ _ => [i]
  | .agg xs => bufL xs
  | _ => []
where
  bufL : List V → List Nat
    | [] => []
    | .buf i _ _ _ :: r => i :: bufL r
    | _ :: r => bufL r
/-- The rows among the arguments that are handed over to be read alone. -/
def snapIds (byref : Nat → Bool) : Nat → List V → List Nat
  | _, [] => []
  | p, v :: r => (if byref p then [] else v.bufIds) ++ snapIds byref (p + 1) r

def setAll (hp : Hp) : List Nat → Hp → Hp
  | i :: r, o :: l => setAll (hp.set i o) r l
  | _, _ => hp

def back (ids : List Nat) (n : Nat) (k : Nat) : Option Nat :=
  match ids[k]? with
  | some i => some i
  | none => some (n + (k - ids.length))

def renH (ρ : Nat → Option Nat) : Hp → Hp
  | [] => []
  | o :: r => o.ren ρ :: renH ρ r

/-- No iterator's yield is handed on. -/
def noYo : Hp → Bool
  | [] => true
  | .yo _ _ :: _ => false
  | .box _ :: r => noYo r
  | .mem _ _ _ :: r => noYo r
  | .gone :: r => noYo r
def takeC (keep : List Nat) (hp : Hp) : Option Hp := match take keep hp keep with
  | some h => match noYo h with
    | true => some h
    | false => none
  | none => none
/-- A call: the values, the frame (rows that are only read from now on are so there, too), the heap, the call's class. -/
def xcall (byref : Nat → Bool) (cf : CF) (g : FuncId) (args : List V) (fr : Fr) (hp : Hp) : Option (List V × Fr × Hp × Nat) :=
  let S := snapIds byref 0 args
  let p : Nat → Bool := fun i => S.contains i
  let args1 := if S.isEmpty then args else frzL hp p args
  let hp1 := if S.isEmpty then hp else frzH p hp
  let ids := reach hp1 (2 * hp.length + 40) (idsL args1) []
  match takeC ids hp1 with
  | none => none
  | some h0 =>
    if distinct ids = true then
      match cf g (renL (idx ids) args1) h0 with
      | none => none
      | some (vals, h1) =>
        if ids.isEmpty && flatL vals && h1.isEmpty then some (vals, fr, hp, if S.isEmpty then 0 else 4)
        else if ids.length ≤ h1.length ∧ noYo h1 = true then
          let ρ := back ids hp1.length
          some (renL ρ vals, if S.isEmpty then fr else frzF hp p fr, setAll hp1 ids (renH ρ (h1.take ids.length)) ++ renH ρ (h1.drop ids.length),
            if S.isEmpty then (if ids.isEmpty then (if h1.isEmpty && (idsL vals).isEmpty then 0 else 2) else 3) else 4)
        else none
    else none

structure Env where
  T : TypeId → Option Ty
  B : FuncId → Option Func
  /-- the slots that live on behind a region, at a loop's head (by its first region) -/
  live : FuncId → Nat → Option (List Nat)
  head : FuncId → Nat → Option (List Nat)
  own : FuncId → Nat → Bool
  byref : FuncId → Nat → Bool
  /-- are the rows that this function makes and hands back only read by its callers? -/
  frz : FuncId → Bool
  /-- is this function tried for nil and for no nil, if its first argument is a slice of no elements and nothing more is known? -/
  split : FuncId → Bool
  /-- the sizes of the elements of a function's arguments' slices; of its results' -/
  fx : FuncId → List (List Nat)
  wk : FuncId → List (List Nat)
  ext : FuncId → Option (List V → Hp → Option (List V × Hp))
  /-- what an iterator hands to its loop, if nobody stops it -/
  seq : FuncId → List V → Hp → Option (List (List V))

structure St where
  fr : Fr
  hp : Hp

inductive Ex where
  | nrm | exit (id : Nat) | ret
  deriving DecidableEq

def tupV : List V → V
  | [x] => x
  | l => .tup l

/-! ## what a loop over an iterator wants -/
mutual
def C.eqb : C → C → Bool
  | .int k n, .int k' n' => k == k' && n == n'
  | .bool a, .bool b => a == b
  | .str a, .str b => a == b
  | .sl z nl t xs, .sl z' nl' t' xs' => z == z' && nl == nl' && t == t' && eqbLL xs xs'
  | .pnil, .pnil | .inil, .inil | .fnil, .fnil => true
  | _, _ => false
def eqbL : List C → List C → Bool
  | [], [] => true
  | x :: r, y :: s => x.eqb y && eqbL r s
  | _, _ => false
def eqbLL : List (List C) → List (List C) → Bool
  | [], [] => true
  | x :: r, y :: s => eqbL x y && eqbLL r s
  | _, _ => false
end
mutual
def V.eqb : V → V → Bool
  | .c x, .c y => x.eqb y
  | .fp xs, .fp ys => eqbL xs ys
  | .fn f xs, .fn g ys => f == g && eqbV xs ys
  | .agg xs, .agg ys => eqbV xs ys
  | _, _ => false
def eqbV : List V → List V → Bool
  | [], [] => true
  | x :: r, y :: s => x.eqb y && eqbV r s
  | _, _ => false
end
mutual
theorem C.eqb_eq : ∀ {x y : C}, x.eqb y = true → x = y
  | .int .., y, h => by cases y <;> simp_all [C.eqb]
  | .bool _, y, h => by cases y <;> simp_all [C.eqb]
  | .str _, y, h => by cases y <;> simp_all [C.eqb]
  | .pnil, y, h => by cases y <;> simp_all [C.eqb]
  | .inil, y, h => by cases y <;> simp_all [C.eqb]
  | .fnil, y, h => by cases y <;> simp_all [C.eqb]
  | .sl z nl t xs, .sl z' nl' t' xs', h => by
    simp only [C.eqb, Bool.and_eq_true, beq_iff_eq] at h
    obtain ⟨⟨⟨rfl, rfl⟩, rfl⟩, h⟩ := h
    rw [eqbLL_eq h]
  | .sl .., .int .., h | .sl .., .bool _, h | .sl .., .str _, h | .sl .., .pnil, h | .sl .., .inil, h | .sl .., .fnil, h => by simp [C.eqb] at h
theorem eqbL_eq : ∀ {x y : List C}, eqbL x y = true → x = y
  | [], [], _ => rfl
  | x :: r, y :: s, h => by
    simp only [eqbL, Bool.and_eq_true] at h
    rw [C.eqb_eq h.1, eqbL_eq h.2]
  | [], _ :: _, h => by simp [eqbL] at h
  | _ :: _, [], h => by simp [eqbL] at h
theorem eqbLL_eq : ∀ {x y : List (List C)}, eqbLL x y = true → x = y
  | [], [], _ => rfl
  | x :: r, y :: s, h => by
    simp only [eqbLL, Bool.and_eq_true] at h
    rw [eqbL_eq h.1, eqbLL_eq h.2]
  | [], _ :: _, h => by simp [eqbLL] at h
  | _ :: _, [], h => by simp [eqbLL] at h
end
mutual
theorem V.eqb_eq : ∀ {x y : V}, x.eqb y = true → x = y
  | .c x, y, h => by cases y <;> simp [V.eqb] at h; rw [C.eqb_eq h]
  | .fp x, y, h => by cases y <;> simp [V.eqb] at h; rw [eqbL_eq h]
  | .junk, y, h => by cases y <;> simp [V.eqb] at h
  | .undef, y, h => by cases y <;> simp [V.eqb] at h
  | .buf .., y, h => by cases y <;> simp [V.eqb] at h
  | .ptr .., y, h => by cases y <;> simp [V.eqb] at h
  | .yl .., y, h => by cases y <;> simp [V.eqb] at h
  | .tup .., y, h => by cases y <;> simp [V.eqb] at h
  | .fn f xs, .fn g ys, h => by
    simp only [V.eqb, Bool.and_eq_true, beq_iff_eq] at h
    rw [h.1, eqbV_eq h.2]
  | .agg xs, .agg ys, h => by
    simp only [V.eqb] at h
    rw [eqbV_eq h]
  | .fn .., .junk, h | .fn .., .undef, h | .fn .., .c _, h | .fn .., .fp _, h | .fn .., .buf .., h | .fn .., .ptr .., h | .fn .., .yl _, h | .fn .., .agg _, h | .fn .., .tup _, h => by simp [V.eqb] at h
  | .agg .., .junk, h | .agg .., .undef, h | .agg .., .c _, h | .agg .., .fp _, h | .agg .., .buf .., h | .agg .., .ptr .., h | .agg .., .yl _, h | .agg .., .fn .., h | .agg .., .tup _, h => by simp [V.eqb] at h
theorem eqbV_eq : ∀ {x y : List V}, eqbV x y = true → x = y
  | [], [], _ => rfl
  | x :: r, y :: s, h => by
    simp only [eqbV, Bool.and_eq_true] at h
    rw [V.eqb_eq h.1, eqbV_eq h.2]
  | [], _ :: _, h => by simp [eqbV] at h
  | _ :: _, [], h => by simp [eqbV] at h
end
/-- Is this what the loop wants next? -/
def yoHd (rest : List (List V)) (l : List V) : Bool := match rest with
  | [] => false
  | e :: _ => eqbV l e
def yoAns (rest : List (List V)) (stop : Bool) : Bool := !(stop && rest.tail.isEmpty)
/-- Leads to nothing in the heap. -/
def closedL : List V → Bool
  | [] => true
  | .c _ :: r => closedL r
  | .fp _ :: r => closedL r
  | .agg xs :: r => (match pureL xs with | some _ => closedL r | none => false)
  | _ :: _ => false
def soleYo (hp : Hp) (i : Nat) : Bool := noYo (hp.set i .gone)

def V.top : V → List Nat
  | .buf i _ _ _ => [i]
  | .ptr i _ _ _ => [i]
  | _ => []
/-- The objects that an operation's operands lead to at once. -/
def topsO (fr : Fr) (o : Oper) : List Nat := o.op.operands.toList.flatMap fun x => match opd fr x with
  | some v => v.top
  | none => []
/-- A class told more closely: 5 + 2 i: object i alone is read; 6 + 2 i: object i alone is changed. -/
def refk (l : List Nat) (k : Nat) : Nat := match l with
  | [i] => if k = 1 then 5 + 2 * i else if k = 3 then 6 + 2 * i else k
  | _ => k

/-- One operation of function g: its value, frame (rows that are only read from now on are so in the frame, too), heap, class. -/
def opx (E : Env) (cf : CF) (g : FuncId) (fr : Fr) (hp : Hp) (o : Oper) : Option (V × Fr × Hp × Nat) :=
  match o.op with
  | .call ⟨.value f, args, _⟩ => match opd fr f, opdL fr args.toList with
    | some (.fn h caps), some l => match xcall (E.byref h) cf h (mapTL C.fix (E.fx h) (l ++ caps)) fr hp with
      | some (vals, fr', hp', k) => some (tupV vals, fr', hp', k)
      | none => none
    | some (.yl i), some l => match hp[i]? with
      | some (.yo r s) => if yoHd r l = true ∧ soleYo hp i = true then some (.b (yoAns r s), fr, hp.set i (.yo r.tail s), 4) else none
      | _ => none
    | _, _ => none
  | _ => match op0 E.T (E.own g) fr hp o with
    | some (v, hp', k) => some (v, fr, hp', refk (topsO fr o) k)
    | none => none

def put (n : Nat) (d : Option Nat) (v : V) (fr : Fr) : Option Fr := match d with
  | some t => if t < n then some ((t, v) :: fr) else none
  | none => some fr

def wantedV (ops : List Oper) (fr : Fr) (o : Oper) : Option Bool := match o.guard with
  | none => some true
  | some (j, want) => match ops[j]? with
    | some q => match q.dst with
      | some d => match get fr d with
        | some .undef => some false
        | some (.c (.bool b)) => some (b == want)
        | _ => none
      | none => none
    | none => none

def runOps (E : Env) (cf : CF) (g n : Nat) (ops : List Oper) : List Oper → Fr → Hp → Option (Fr × Hp × List Nat)
  | [], fr, hp => some (fr, hp, [])
  | o :: r, fr, hp => match wantedV ops fr o with
    | none => none
    | some false => match put n o.dst .undef fr with
      | some fr => match runOps E cf g n ops r fr hp with
        | some (fr, hp, ks) => some (fr, hp, 0 :: ks)
        | none => none
      | none => none
    | some true => match opx E cf g fr hp o with
      | some (v, fr, hp, k) => match put n o.dst v fr with
        | some fr => match runOps E cf g n ops r fr hp with
          | some (fr, hp, ks) => some (fr, hp, k :: ks)
          | none => none
        | none => none
      | none => none

def maskF (l : List Nat) (fr : Fr) : Fr := match l with
  | [] => []
  | t :: r => match get fr t with
    | some v => (t, v) :: maskF r fr
    | none => maskF r fr
def maskO (l : Option (List Nat)) (fr : Fr) : Fr := match l with
  | some l => maskF l fr
  | none => fr

/-- May two operations change places? -/
def pair0 (a b : Nat) : Bool := match a, b with
  | 0, 0 | 0, 1 | 0, 2 | 0, 3 | 1, 0 | 2, 0 | 3, 0 | 1, 1 | 1, 2 | 2, 1 => true
  | _, _ => false
/-- The class, told less closely. -/
def kd (a : Nat) : Nat := if a < 5 then a else if a % 2 = 1 then 1 else 3
def pairOk (a b : Nat) : Bool := pair0 (kd a) (kd b) || (decide (5 ≤ a) && decide (5 ≤ b) && !decide ((a - 5) / 2 = (b - 5) / 2))
/-- The slots that an operation looks at. -/
def looks (ops : List Oper) (o : Oper) : List Nat :=
  (o.op.operands.toList.filterMap fun | .tmp t => some t | _ => none) ++ (match o.guard with | some (j, _) => (match ops[j]? with | some q => q.dst.toList | none => []) | none => [])
def apart (ops : List Oper) (o q : Oper) : Bool :=
  (match o.dst with | some d => !(looks ops q).contains d && !(q.dst == some d) | none => true) && (match q.dst with | some d => !(looks ops o).contains d | none => true)
/-- What must come ahead of each operation. -/
def ahead : List Oper → List (List Nat) → List (List Nat)
  | [], acc => acc
  | o :: r, acc => ahead r (acc ++ [(o.after.toList.flatMap fun e => if Region.binds .any e then e.on :: acc.getD e.on [] else []).eraseDups])
def aheadOk (ops : List Oper) (pre : List (List Nat)) : Bool :=
  (List.range ops.length).all fun j => (pre.getD j []).all fun p => match ops[j]? with
    | some o => o.after.toList.any fun e => Region.binds .any e && (e.on == p || (pre.getD e.on []).contains p)
    | none => false
/-- Do all edges lead back? -/
def backOk (ops : List Oper) : Bool :=
  (List.range ops.length).all fun j => match ops[j]? with
    | some o => o.after.toList.all fun e => !Region.binds .any e || decide (e.on < j)
    | none => true
/-- May these operations be carried out in any order that their edges let? -/
def drawOk0 (ops : List Oper) (ks : List Nat) : Bool :=
  let pre := ahead ops []
  backOk ops && aheadOk ops pre && (List.range ops.length).all fun j => (List.range j).all fun i => (pre.getD j []).contains i ||
    (pairOk (ks.getD i 4) (ks.getD j 4) && (match ops[i]?, ops[j]? with | some o, some q => apart ops o q | _, _ => false))

/-- Which operations must come ahead of this one. -/
def bindsOf (o : Oper) : List Nat := o.after.toList.filterMap fun e => if Region.binds .any e then some e.on else none
/-- 'a, b := x, x' where both have addresses: two variables that may be made in either order. -/
def dupOk (own : Nat → Bool) (ops : List Oper) : Bool := match ops with
  | [⟨some d0, .load t (.tmp p), y0, s0, a0, none⟩, ⟨some d1, .load t1 (.tmp p1), y1, s1, a1, none⟩, ⟨some d2, .alloc t2, y2, s2, a2, none⟩, ⟨some d3, .alloc t3, y3, s3, a3, none⟩,
      ⟨none, .store t4 (.tmp x4) (.tmp v4), y4, s4, a4, none⟩, ⟨none, .store t5 (.tmp x5) (.tmp v5), y5, s5, a5, none⟩] =>
    t1 == t && t2 == t && t3 == t && t4 == t && t5 == t && p1 == p && x4 == d2 && v4 == d0 && x5 == d3 && v5 == d1 &&
    d0 != p && d1 != p && d2 != p && d3 != p && d0 != d1 && d0 != d2 && d0 != d3 && d1 != d2 && d1 != d3 && d2 != d3 && !own d2 && !own d3 &&
    bindsOf ⟨some d0, .load t (.tmp p), y0, s0, a0, none⟩ == [] && bindsOf ⟨some d1, .load t1 (.tmp p1), y1, s1, a1, none⟩ == [] && bindsOf ⟨some d2, .alloc t2, y2, s2, a2, none⟩ == [] && bindsOf ⟨some d3, .alloc t3, y3, s3, a3, none⟩ == [] &&
    (let b := bindsOf ⟨none, .store t4 (.tmp x4) (.tmp v4), y4, s4, a4, none⟩; b.contains 0 && b.contains 2 && b.contains 3 && b.all fun i => decide (i < 4)) &&
    (let b := bindsOf ⟨none, .store t5 (.tmp x5) (.tmp v5), y5, s5, a5, none⟩; b.contains 0 && b.contains 1 && b.contains 2 && b.contains 3 && b.contains 4 && b.all fun i => decide (i < 5))
  | _ => false
def drawOk (own : Nat → Bool) (ops : List Oper) (ks : List Nat) : Bool := drawOk0 ops ks || dupOk own ops

def region (E : Env) (cf : CF) (g n : Nat) (id : Nat) (ops : List Oper) (draw : Bool) (s : St) : Option St :=
  match runOps E cf g n ops ops s.fr s.hp with
  | some (fr, hp, ks) => if draw = false ∨ drawOk (E.own g) ops ks = true then some ⟨maskO (E.live g id) fr, hp⟩ else none
  | none => none

def firstReg : Code → Option Nat
  | .region id _ _ => some id
  | .seq a _ => firstReg a
  | .block _ b | .loop b | .scope b => firstReg b
  | _ => none

def frIds : Fr → List Nat
  | [] => []
  | (_, v) :: r => v.ids ++ frIds r
def renF (ρ : Nat → Option Nat) : Fr → Fr
  | [] => []
  | (t, v) :: r => (t, v.ren ρ) :: renF ρ r

/-- At a loop's head: the slots that live on, and what they lead to. -/
def norm (E : Env) (g m : Nat) (body : Code) (s : St) : Option St :=
  let fr := maskO ((firstReg body).bind (E.head g)) s.fr
  if s.hp.length ≤ m then some ⟨fr, s.hp⟩ else
    let keep := gcK m (frIds fr) s.hp
    match take keep s.hp keep with
    | some hp => if distinct keep = true then some ⟨youngF m hp (renF (idx keep) fr), youngK m hp 0 hp⟩ else none
    | none => none

def iterN : Nat → (St → Option (Ex × St)) → St → Option (Ex × St)
  | 0, _, _ => none
  | k + 1, f, s => match f s with
    | some (.nrm, s) => iterN k f s
    | r => r

def exec (rg : Nat → List Oper → Bool → St → Option St) (lp : Nat → Code → (St → Option (Ex × St)) → St → Option (Ex × St))
    (rf : Nat → Operand → List Nat → Code → (Nat → St → Option (Ex × St)) → St → Option (Ex × St)) : Code → Nat → St → Option (Ex × St)
  | .skip, _, s => some (.nrm, s)
  | .label _, _, s => some (.nrm, s)
  | .region id ops draw, _, s => match rg id ops.toList draw s with
    | some s => some (.nrm, s)
    | none => none
  | .seq a b, m, s => match exec rg lp rf a m s with
    | some (.nrm, s) => exec rg lp rf b m s
    | r => r
  | .cond c x y, m, s => match opd s.fr c with
    | some (.c (.bool t)) => if t then exec rg lp rf x m s else exec rg lp rf y m s
    | _ => none
  | .block id b, m, s => match exec rg lp rf b m s with
    | some (.exit i, s) => if i = id then some (.nrm, s) else some (.exit i, s)
    | r => r
  | .loop b, m, s => lp m b (exec rg lp rf b m) s
  | .rangeFunc f ps a b, m, s => rf m f ps.toList b (fun m s => match exec rg lp rf a m s with
    | some (.nrm, s) => exec rg lp rf b m s
    | _ => none) s
  | .scope b, m, s => exec rg lp rf b m s
  | .exit id, _, s => some (.exit id, s)
  | .ret, _, s => some (.ret, s)
  | _, _, _ => none

/-! ## a loop over an iterator -/
def putL (n : Nat) : List Nat → List V → Fr → Option Fr
  | [], [], fr => some fr
  | t :: r, v :: l, fr => match put n (some t) v fr with
    | some fr => putL n r l fr
    | none => none
  | _, _, _ => none
def goneAt : List Nat → Hp → Hp
  | [], hp => hp
  | i :: r, hp => goneAt r (hp.set i .gone)
/-- The rounds: how they end, and what was wanted: the elements, and whether the last one was the last that was wanted. -/
def roundsE (n : Nat) (ps : List Nat) (nm : St → Option St) (rd : Nat → St → Option (Ex × St)) : List (List V) → St → Option (Ex × St × List (List V) × Bool)
  | [], s => some (.nrm, s, [], false)
  | e :: r, s => match closedL e, putL n ps e s.fr with
    | true, some fr => match rd s.hp.length ⟨fr, s.hp⟩ with
      | some (.nrm, s1) => match nm ⟨s.fr, s1.hp⟩ with
        | some s2 => match roundsE n ps nm rd r s2 with
          | some (ex, s', u, t) => some (ex, s', e :: u, t)
          | none => none
        | none => none
      | some (ex, s1) => some (ex, ⟨s.fr, s1.hp⟩, [e], true)
      | none => none
    | _, _ => none
/-- What an iterator is handed: its arguments, its heap, what is its own. -/
def iterOf (E : Env) (gi : FuncId) (caps : List V) (hp : Hp) : Option (List V × Hp × List Nat) :=
  let ids := reach hp (2 * hp.length + 40) (idsL caps) []
  match takeC ids hp with
  | some h0 => if distinct ids = true then some (mapTL C.fix (E.fx gi) (.yl ids.length :: renL (idx ids) caps), h0, ids) else none
  | none => none
def spent (h : Hp) (k : Nat) : Bool := match h[k]? with
  | some (.yo r _) => r.isEmpty
  | _ => false
/-- .. from its head. -/
def rangeG (E : Env) (cf : CF) (g n : Nat) (m : Nat) (f : Operand) (ps : List Nat) (b : Code) (rd : Nat → St → Option (Ex × St)) (s : St) : Option (Ex × St) :=
  match opd s.fr f with
  | some (.fn gi caps) => match iterOf E gi caps s.hp with
    | some (args, h0, ids) => match E.seq gi args h0 with
      | some es => match roundsE n ps (norm E g m b) rd es ⟨s.fr, goneAt ids s.hp⟩ with
        | some (ex, s', u, t) => match cf gi args (h0 ++ [.yo u t]) with
          | some (_, h1) => if spent h1 ids.length = true then some (ex, s') else none
          | none => none
        | none => none
      | none => none
    | none => none
  | _ => none
def rangeF (E : Env) (cf : CF) (g n : Nat) (m : Nat) (f : Operand) (ps : List Nat) (b : Code) (rd : Nat → St → Option (Ex × St)) (s : St) : Option (Ex × St) :=
  match norm E g m b s with
  | some s => rangeG E cf g n m f ps b rd s
  | none => none

def frame0 : Nat → List V → Fr
  | _, [] => []
  | p, v :: r => (p, v) :: frame0 (p + 1) r

def resL (T : TypeId → Option Ty) (s : St) : List ResultVar → Option (List V)
  | [] => some []
  | .tmp t :: r => match get s.fr t, resL T s r with
    | some v, some l => some (v :: l)
    | _, _ => none
  | .cell a t :: r => match get s.fr a, T t, resL T s r with
    | some v, some y, some l => match loadV s.hp y v with
      | some x => some (x :: l)
      | none => none
    | _, _, _ => none

def resW (E : Env) (g : FuncId) (s : St) (l : List ResultVar) : Option (List V) := match resL E.T s l with
  | some vals => some (mapTL C.weak (E.wk g) vals)
  | none => none

/-- What is handed back: rows that were made may be only read from now on; what nothing leads to falls away. -/
def leave (fz : Bool) (m : Nat) (vals : List V) (hp : Hp) : Option (List V × Hp) :=
  if hp.length ≤ m then some (vals, hp) else
    let ids := if fz then idsL vals else []
    let p := fun i => fz && decide (m ≤ i) && ids.contains i
    let vals := frzL hp p vals
    let hp := frzH p hp
    let keep := gcK m (idsL vals) hp
    match take keep hp keep with
    | some h => if distinct keep = true then some (renL (idx keep) vals, h) else none
    | none => none

/-- A loop's round: its head first. -/
def headed (E : Env) (g m : Nat) (b : Code) (f : St → Option (Ex × St)) (s : St) : Option (Ex × St) := match norm E g m b s with
  | some s => f s
  | none => none
def execF (E : Env) (cf : CF) (K : Nat) (g n : Nat) : Code → Nat → St → Option (Ex × St) :=
  exec (region E cf g n) (fun m b f => iterN K (headed E g m b f)) (rangeF E cf g n)
def runF (E : Env) (cf : CF) (K : Nat) (g : FuncId) (fn : Func) (args : List V) (hp : Hp) : Option (List V × Hp) :=
  match fn.body with
  | none => none
  | some code =>
    let n := args.length + (fn.ntmps - args.length)
    match execF E cf K g n code hp.length ⟨frame0 0 args, hp⟩ with
    | some (.nrm, s) | some (.ret, s) => match resW E g s fn.results.toList with
      | some vals => leave (E.frz g) hp.length vals s.hp
      | none => none
    | _ => none

/-- The two things that a slice of no elements may be. -/
def nilArg : Bool → List V → Option (List V × List V)
  | true, .c (.sl z none t []) :: r => some (.c (.sl z (some true) true []) :: r, .c (.sl z (some false) t []) :: r)
  | _, _ => none
def sameR : Option (List V × Hp) → Option (List V × Hp) → Bool
  | some ([.buf i e o l], [.mem z a []]), some ([.buf i' e' o' l'], [.mem z' a' []]) => i == i' && e == e' && o == o' && l == l' && z == z' && a == a'
  | some ([.c (.bool a)], []), some ([.c (.bool b)], []) => a == b
  | some ([.c (.sl z nl t [])], []), some ([.c (.sl z' nl' t' [])], []) => z == z' && nl == nl' && t == t'
  | _, _ => false
theorem sameR_eq {r s : Option (List V × Hp)} (h : sameR r s = true) : r = s := by
  unfold sameR at h
  split at h <;> simp_all
def both (r s : Option (List V × Hp)) : Option (List V × Hp) := if sameR r s then r else none

def callN (E : Env) : Nat → CF
  | 0, _, _, _ => none
  | k + 1, g, args, hp => match E.ext g with
    | some f => f args hp
    | none => match E.B g with
      | some fn => match nilArg (E.split g) args with
        | some (a, b) => both (runF E (callN E k) k g fn a hp) (runF E (callN E k) k g fn b hp)
        | none => runF E (callN E k) k g fn args hp
      | none => none
end Go.Ev
