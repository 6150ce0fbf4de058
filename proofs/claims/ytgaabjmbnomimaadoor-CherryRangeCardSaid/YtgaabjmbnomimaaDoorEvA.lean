/-
  EV, part A: an abstract interpreter of loaded Go code: values without memory, slices by their contents, own rows and boxed variables in a small abstract heap. Definitions alone; EV, part B: what it is for a world to hold what the abstract interpreter says: the relations, and what keeps them; EV, part C: each operation that is no call of a Go function does to a world what the abstract interpreter says; EV, part D: the operations on structs, rows and memory.
-/
import Derived.Orders
import Derived.Deep.AppendSrc
import Derived.Laws.Rows
import Derived.Laws.CopyRow
import Derived.Laws.MakeOwn
import Derived.Laws.Entries
import Derived.Laws.Shifts
import Derived.Laws.Strings
import Derived.StringKeys
import Derived.Laws.Strings2
set_option linter.all false
namespace Go.Ev
inductive C where
 | int (k : IntKind) (n : Int)
 | bool (b : Bool)
 | str (s : List UInt8)
 | sl (sz : Nat) (nl : Option Bool) (tight : Bool) (xs : List (List C))
 | pnil
 | inil
 | fnil
 deriving Inhabited
inductive V where
 | junk
 | undef
 | c (x : C)
 | fp (cs : List C)
 | buf (i ep off len : Nat)
 | ptr (i ep el o : Nat)
 | fn (f : FuncId) (caps : List V)
 | yl (i : Nat)
 | agg (xs : List V)
 | tup (xs : List V)
 deriving Inhabited
inductive O where
 | box (cs : List V)
 | mem (sz ep : Nat) (xs : List (List C))
 | yo (rest : List (List V)) (stop : Bool)
 | gone
 deriving Inhabited
abbrev Fr := List (Nat × V)
abbrev Hp := List O
abbrev CF := FuncId -> List V -> Hp -> Option (List V × Hp)
@[reducible] def V.i (n : Int) : V := .c (.int .i64 n)
@[reducible] def V.b (b : Bool) : V := .c (.bool b)
inductive K where
 | int (k : IntKind) | bool | str
 | slice (e : TypeId) | array (n : Nat) (e : TypeId) | struct (fs : List (Nat × Nat × Bool)) | ptr (e : TypeId)
 | other
 deriving DecidableEq, Inhabited
inductive LK where
 | int | bool | str
 deriving DecidableEq, Inhabited
structure Ty where
 k : K
 size : Nat
 bytes : Nat
 eq : List LK
 zero : List C
 el : List C
 deriving Inhabited
def K.agg : K -> Bool
 | .struct _ | .array _ _ => true
 | _ => false
def cOf : Value -> Option C
 | .int k n => some (.int k n)
 | .bool b => some (.bool b)
 | .string s => some (.str s.data.toList)
 | .slice none 0 0 => some (.sl 0 (some true) true [])
 | .pointer none => some .pnil
 | .nilIface => some .inil
 | .nilFunc => some .fnil
 | _ => none
def cOfL : List Value -> Option (List C)
 | [] => some []
 | v :: r => match cOf v, cOfL r with
   | some x, some l => some (x :: l)
   | _, _ => none
def sizeAt (P : Program) (t : TypeId) : Nat := ((P.info? t).map (·.size)).getD 0
def aggAt (P : Program) (t : TypeId) : Bool := match P.underlying t with | some (.struct _) | some (.array _ _) => true | _ => false
def kOf (P : Program) : TypeDesc -> K
 | .int k => .int k
 | .bool => .bool
 | .string => .str
 | .slice e => .slice e
 | .array n e => .array n e
 | .struct fs => .struct (fs.toList.map fun f => (f.offset, sizeAt P f.type, aggAt P f.type))
 | .pointer e => .ptr e
 | _ => .other
def laidOut (P : Program) : Nat -> List Field -> Nat -> Bool
 | off, [], n => off == n
 | off, f :: r, n => f.offset == off && laidOut P (off + sizeAt P f.type) r n
def appAll {α : Type} : List (Option (List α)) -> Option (List α)
 | [] => some []
 | x :: r => match x, appAll r with
   | some a, some b => some (a ++ b)
   | _, _ => none
def eqAt (P : Program) : Nat -> TypeId -> Option (List LK)
 | 0, _ => none
 | d + 1, t => match P.info? t, P.underlying t with
   | some _, some .bool => if sizeAt P t = 1 then some [.bool] else none
   | some _, some (.int _) => if sizeAt P t = 1 then some [.int] else none
   | some _, some .string => if sizeAt P t = 1 then some [.str] else none
   | some _, some (.struct fs) =>
     if P.stoodInHeld t = false /\ laidOut P 0 fs.toList (sizeAt P t) = true /\ (fs.toList.all fun f => f.name != "_") = true then appAll (fs.toList.map fun f => eqAt P d f.type) else none
   | _, _ => none
def eqOf (P : Program) (t : TypeId) : List LK := match eqAt P 8 t with
 | some l => if P.eqGuardType P.depth t then [] else l
 | none => []
def C.one : C -> C -> Bool
 | .int k n, .int k' n' => k == k' && n == n'
 | .bool a, .bool b => a == b
 | .str a, .str b => a == b
 | .pnil, .pnil | .inil, .inil | .fnil, .fnil => true
 | .sl 0 (some true) true [], .sl 0 (some true) true [] => true
 | _, _ => false
def oneL : List C -> List C -> Bool
 | [], [] => true
 | x :: r, y :: s => x.one y && oneL r s
 | _, _ => false
theorem C.one_eq {x y : C} (h : x.one y = true) : x = y := by
 unfold C.one at h
 split at h <;> simp_all
theorem oneL_eq : ∀ {l m : List C}, oneL l m = true -> l = m
 | [], [], _ => rfl
 | x :: r, y :: s, h => by
   simp only [oneL, Bool.and_eq_true] at h
   rw [C.one_eq h.1, oneL_eq h.2]
 | [], _ :: _, h => by simp [oneL] at h
 | _ :: _, [], h => by simp [oneL] at h
def C.fix (z : Nat) : C -> C
 | .sl n nl t xs => match n with
   | 0 => match xs with
     | [] => .sl z nl t []
     | y :: ys => .sl 0 nl t (y :: ys)
   | n + 1 => .sl (n + 1) nl t xs
 | c => c
def C.weak (z : Nat) : C -> C
 | .sl n _ _ xs => match n with
   | 0 => match xs with
     | [] => .sl z none false []
     | y :: ys => .sl 0 none false (y :: ys)
   | n + 1 => .sl (n + 1) none false xs
 | c => c
def fixTags : List Nat -> List C -> List C
 | z :: r, x :: l => x.fix z :: fixTags r l
 | _, l => l
def V.map1 (f : Nat -> C -> C) (z : Nat) : V -> V
 | .c x => .c (f z x)
 | v => v
def mapTags (f : Nat -> C -> C) : List Nat -> List V -> List V
 | z :: r, v :: l => v.map1 f z :: mapTags f r l
 | _, l => l
def V.mapT (f : Nat -> C -> C) (tags : List Nat) : V -> V
 | .agg xs => .agg (mapTags f tags xs)
 | .c x => match tags with
   | z :: _ => .c (f z x)
   | [] => .c x
 | v => v
def mapTL (f : Nat -> C -> C) : List (List Nat) -> List V -> List V
 | t :: r, v :: l => v.mapT f t :: mapTL f r l
 | _, l => l
def tagsAt (P : Program) : Nat -> TypeId -> List Nat
 | 0, _ => []
 | d + 1, t => match P.underlying t with
   | some (.slice e) => [sizeAt P e]
   | some (.struct fs) => fs.toList.flatMap fun f => tagsAt P d f.type
   | some (.array n e) => (List.replicate n (tagsAt P d e)).flatten
   | some _ => List.replicate (sizeAt P t) 0
   | none => []
def fieldsOk (P : Program) : TypeDesc -> Bool
 | .struct fs => fs.toList.all fun f => (P.info? f.type).isSome && (P.underlying f.type).isSome
 | _ => true
def tyOf (P : Program) (t : TypeId) : Option Ty :=
 match P.info? t, P.underlying t with
 | some i, some d =>
   match d with
   | .array n e =>
     match P.info? e, i.zero with
     | some j, some z =>
       match j.zero with
       | some ze => match cOfL ze.cells.toList, cOfL z.cells.toList with
         | some l, some lz => if j.size = l.length /\ i.size = n * l.length /\ oneL lz (List.replicate n l).flatten = true then some ⟨kOf P d, i.size, i.bytes, eqOf P t, [], fixTags (tagsAt P 9 e) l⟩ else none
         | _, _ => none
       | none => none
     | _, _ => none
   | _ =>
     match i.zero with
     | some z => match cOfL z.cells.toList with
       | some l => if l.length = i.size /\ fieldsOk P d = true then some ⟨kOf P d, i.size, i.bytes, eqOf P t, fixTags (tagsAt P 9 t) l, []⟩ else none
       | none => none
     | none => none
 | _, _ => none
def get : Fr -> Nat -> Option V
 | [], _ => none
 | (k, v) :: r, t => if t = k then some v else get r t
def opd (fr : Fr) : Operand -> Option V
 | .tmp t => get fr t
 | .const v => match cOf v with | some x => some (.c x) | none => none
 | .func f => some (.fn f [])
 | .global _ => none
def opdL (fr : Fr) : List Operand -> Option (List V)
 | [] => some []
 | x :: r => match opd fr x, opdL fr r with
   | some v, some l => some (v :: l)
   | _, _ => none
def opdP (fr : Fr) : List (Nat × Operand) -> Option (List (Nat × V))
 | [] => some []
 | (i, x) :: r => match opd fr x, opdP fr r with
   | some v, some l => some ((i, v) :: l)
   | _, _ => none
def V.cells : V -> List V
 | .agg xs => xs
 | v => [v]
def V.one : V -> Bool
 | .agg _ | .tup _ | .undef | .junk => false
 | _ => true
def pureL : List V -> Option (List C)
 | [] => some []
 | .c x :: r => match pureL r with | some l => some (x :: l) | none => none
 | _ :: _ => none
def ofCells (agg : Bool) (xs : List V) : Option V :=
 if agg then some (.agg xs) else match xs with | [x] => some x | _ => none
def part {α : Type} (xs : List α) (off size : Nat) : Option (List α) :=
 if off + size <= xs.length then some ((xs.drop off).take size) else none
def splice {α : Type} (l : List α) (o : Nat) (ys : List α) : List α := l.take o ++ ys ++ l.drop (o + ys.length)
def eqC : LK -> C -> C -> Option Bool
 | .int, .int k a, .int k' b => if k = k' then some (a == b) else none
 | .bool, .bool a, .bool b => some (a == b)
 | .str, .str a, .str b => some (a == b)
 | _, _, _ => none
def eqL : List LK -> List V -> List V -> Option Bool
 | [], [], [] => some true
 | k :: ks, .c x :: r, .c y :: s => match eqC k x y, eqL ks r s with
   | some a, some b => some (a && b)
   | _, _ => none
 | _, _, _ => none
def isNilP : V -> Option Bool
 | .c .pnil => some true
 | .fp _ | .ptr .. => some false
 | _ => none
def isNilS : V -> Option Bool
 | .c (.sl _ nl _ xs) => match nl with
   | some b => some b
   | none => match xs with | [] => none | _ :: _ => some false
 | _ => none
def eqV (y : Ty) (a b : V) : Option Bool :=
 match a, b with
 | .agg xs, .agg ys => if y.eq ≠ [] /\ y.k.agg = true then eqL y.eq xs ys else none
 | .c .pnil, b => match y.k with | .ptr _ => isNilP b | _ => none
 | a, .c .pnil => match y.k with | .ptr _ => isNilP a | _ => none
 | a, .c (.sl _ (some true) true []) => match y.k with | .slice _ => isNilS a | _ => none
 | _, _ => none
def intBin (op : BinOp) (k : IntKind) (x y : Int) : Option C :=
 match op with
 | .add => some (.int k (k.wrap (x + y)))
 | .sub => some (.int k (k.wrap (x - y)))
 | .mul => some (.int k (k.wrap (x * y)))
 | .quo => if y = 0 then none else some (.int k (k.wrap (x.tdiv y)))
 | .rem => if y = 0 then none else some (.int k (x.tmod y))
 | .and => some (.int k (Go.bits .and k x y))
 | .or => some (.int k (Go.bits .or k x y))
 | .xor => some (.int k (Go.bits .xor k x y))
 | .andNot => some (.int k (Go.bits .andNot k x y))
 | .eql => some (.bool (x == y))
 | .neq => some (.bool (x != y))
 | .lss => some (.bool (decide (x < y)))
 | .leq => some (.bool (decide (x <= y)))
 | .gtr => some (.bool (decide (y < x)))
 | .geq => some (.bool (decide (y <= x)))
 | _ => none
def strBin (op : BinOp) (x y : List UInt8) : Option C :=
 match op with
 | .add => if x.length + y.length < 4294967296 then some (.str (x ++ y)) else none
 | .eql => some (.bool (x == y))
 | .neq => some (.bool (!(x == y)))
 | .lss => some (.bool (Op.bytesLess x y))
 | .leq => some (.bool (Op.bytesLess x y || x == y))
 | .gtr => some (.bool (!(Op.bytesLess x y || x == y)))
 | .geq => some (.bool (!Op.bytesLess x y))
 | _ => none
def bin (T : TypeId -> Option Ty) (op : BinOp) (t : TypeId) (a b : V) : Option V :=
 match a, b with
 | .c (.int k x), .c (.int k' y) => match op with
   | .shl => if 0 <= y then some (.c (.int k (k.wrap (x * 2 ^ min y.toNat k.bits)))) else none
   | .shr => if 0 <= y then some (.c (.int k (x / 2 ^ min y.toNat k.bits))) else none
   | _ => if k = k' then (intBin op k x y).map .c else none
 | .c (.str x), .c (.str y) => (strBin op x y).map .c
 | .c (.bool x), .c (.bool y) => match T t with
   | some ⟨.bool, _, _, _, _, _⟩ => (match op with | .eql => some (.b (x == y)) | .neq => some (.b (!(x == y))) | _ => none)
   | _ => none
 | a, b => match T t with
   | some y => match op with
     | .eql => (eqV y a b).map .b
     | .neq => (eqV y a b).map fun r => .b (!r)
     | _ => none
   | none => none
def un (op : UnOp) (a : V) : Option V :=
 match op, a with
 | .neg, .c (.int k n) => some (.c (.int k (k.wrap (0 - n))))
 | .not, .c (.bool b) => some (.b (!b))
 | _, _ => none
def conv (T : TypeId -> Option Ty) (src dst : TypeId) (a : V) : Option V :=
 match T src, T dst, a with
 | some _, some ⟨.int k, _, _, _, _, _⟩, .c (.int _ n) => some (.c (.int k (k.wrap n)))
 | some ⟨.str, _, _, _, _, _⟩, some ⟨.str, _, _, _, _, _⟩, .c (.str s) => some (.c (.str s))
 | _, _, _ => none
def placeOf (fs : List (Nat × Nat × Bool)) (i : Nat) : Option (Nat × Nat) := (fs[i]?).map fun x => (x.1, x.2.1)
def fillP (place : Nat -> Option (Nat × Nat)) (cells : List V) : List (Nat × V) -> Option (List V)
 | [] => some cells
 | (i, v) :: rest => match place i with
   | some (off, size) => if v.cells.length = size /\ off + size <= cells.length /\ v.cells.all V.one = true then fillP place (splice cells off v.cells) rest else none
   | none => none
def bnd (fr : Fr) : Option Operand -> Option (Option Nat)
 | none => some none
 | some x => match opd fr x with
   | some (.c (.int _ n)) => if 0 <= n then some (some n.toNat) else none
   | _ => none
def chunk (sz : Nat) : Nat -> List C -> List (List C)
 | 0, _ => []
 | n + 1, l => l.take sz :: chunk sz n (l.drop sz)
def srcOf (hp : Hp) (sz : Nat) : V -> Option (List (List C))
 | .c (.sl z _ _ xs) => if z = sz then some xs else match xs with | [] => some [] | _ :: _ => none
 | .c (.str s) => if sz = 1 then some (s.map fun b => [C.int .u8 b.toNat]) else none
 | .buf i ep off len => match hp[i]? with
   | some (.mem z e xs) => if z = sz /\ e = ep then some ((xs.drop off).take len) else none
   | _ => none
 | _ => none
def appendV (sz : Nat) (hp : Hp) (dst src : V) : Option (V × Hp × Nat) :=
 match srcOf hp sz src with
 | none => none
 | some ys => match dst with
   | .c (.sl z _ true xs) =>
     if (z = sz \/ xs = []) /\ (xs = [] \/ ys ≠ []) /\ xs.length + ys.length < 4294967296 then
       some (.buf hp.length 0 0 (xs.length + ys.length), hp ++ [.mem sz 0 (xs ++ ys)], 2)
     else none
   | .buf i ep off len => match hp[i]? with
     | some (.mem z e xs) =>
       if z = sz /\ e = ep /\ len + ys.length < 4294967296 then
         some (.buf i (ep + 1) 0 (len + ys.length), hp.set i (.mem sz (ep + 1) ((xs.drop off).take len ++ ys)), 3)
       else none
     | _ => none
   | _ => none
def minMax (gt : Bool) : V -> List V -> Option V
 | v, [] => some v
 | .c (.int k x), .c (.int k' y) :: r => if k = k' then minMax gt (.c (.int k (if (if gt then x < y else y < x) then y else x))) r else none
 | _, _ :: _ => none
def lenV (T : TypeId -> Option Ty) (hp : Hp) (t : TypeId) (x : V) : Option Nat :=
 match T t with
 | none => none
 | some y => match y.k, x with
   | .str, .c (.str s) => some s.length
   | .slice _, .c (.sl _ _ _ l) => some l.length
   | .slice _, .buf i ep _ n => match hp[i]? with
     | some (.mem _ e _) => if e = ep then some n else none
     | _ => none
   | .array n _, _ => some n
   | .ptr e, _ => match T e with
     | some ye => match ye.k with | .array n _ => some n | _ => none
     | none => none
   | _, _ => none
def K.src : K -> Bool
 | .slice _ | .str => true
 | _ => false
def appB (T : TypeId -> Option Ty) (hp : Hp) (t tx : TypeId) (d s : V) : Option (V × Hp × Nat) :=
 match T t, T tx with
 | some y, some yx => match y.k with
   | .slice e => match T e with
     | some ye => if ye.bytes <= 4096 /\ ye.zero.length = ye.size /\ yx.k.src = true then appendV ye.size hp d s else none
     | none => none
   | _ => none
 | _, _ => none
abbrev R0 := Option (V × Hp × Nat)
def pureR (hp : Hp) (v : Option V) : R0 := match v with
 | some x => some (x, hp, 0)
 | none => none
def capV (T : TypeId -> Option Ty) (t : TypeId) : V -> Option V
 | .c (.sl _ _ true xs) => match T t with
   | some y => match y.k with
     | .slice _ => some (.i xs.length)
     | _ => none
   | none => none
 | _ => none
def bltn (T : TypeId -> Option Ty) (hp : Hp) (b : Builtin) (ts : List TypeId) (xs : List V) : Option (V × Hp × Nat) :=
 match b with
 | .len => match ts, xs with
   | [t], [x] => match lenV T hp t x with
     | some n => some (.i n, hp, match x with | .buf .. => 1 | _ => 0)
     | none => none
   | _, _ => none
 | .append => match ts, xs with
   | [t, tx], [d, s] => appB T hp t tx d s
   | _, _ => none
 | .cap => match ts, xs with
   | [t], [x] => pureR hp (capV T t x)
   | _, _ => none
 | .max => match xs with
   | x :: r => match minMax true x r with | some v => some (v, hp, 0) | none => none
   | [] => none
 | .min => match xs with
   | x :: r => match minMax false x r with | some v => some (v, hp, 0) | none => none
   | [] => none
 | _ => none
def loadE (y : Ty) (xs : List (List C)) (el o : Nat) : Option V := match xs[el]? with
 | some cs => (match part cs o y.size with | some l => ofCells y.k.agg (l.map .c) | none => none)
 | none => none
def loadM (y : Ty) (z : Nat) (xs : List (List C)) (el o : Nat) : Option V := match y.k with
 | .array n _ => if el = 0 /\ o = 0 /\ xs.length = n /\ y.size = n * z then some (.agg (xs.flatten.map .c)) else loadE y xs el o
 | _ => loadE y xs el o
def loadV (hp : Hp) (y : Ty) : V -> Option V
 | .fp cs => match part cs 0 y.size with
   | some l => ofCells y.k.agg (l.map .c)
   | none => none
 | .ptr i ep el o => match hp[i]? with
   | some (.box cs) => if el = 0 then (match part cs o y.size with | some l => ofCells y.k.agg l | none => none) else none
   | some (.mem z e xs) => if e = ep then loadM y z xs el o else none
   | _ => none
 | _ => none
def storeV (hp : Hp) (y : Ty) (a x : V) : Option Hp :=
 match a with
 | .ptr i ep el o => match hp[i]? with
   | some (.box cs) => if el = 0 /\ x.cells.length = y.size /\ o + y.size <= cs.length /\ x.cells.all V.one = true then some (hp.set i (.box (splice cs o x.cells))) else none
   | some (.mem z e xs) => if e = ep then (match xs[el]?, pureL x.cells with
     | some cs, some l => if l.length = y.size /\ o + y.size <= cs.length then some (hp.set i (.mem z e (xs.set el (splice cs o l)))) else none
     | _, _ => none) else none
   | _ => none
 | _ => none
def ownD (own : Nat -> Bool) : Option Nat -> Bool
 | some d => own d
 | none => false
def nilRow (T : TypeId -> Option Ty) (hp : Hp) (t : TypeId) : R0 := match T t with
 | none => none
 | some y => match y.k with
   | .slice e => match T e with
     | some ye => some (.buf hp.length 0 0 0, hp ++ [.mem ye.size 0 []], 2)
     | none => none
   | _ => none
def moveV (T : TypeId -> Option Ty) (ow : Bool) (hp : Hp) (t : TypeId) (v : V) : R0 :=
 match v with
 | .c (.sl 0 (some true) true []) => match ow with
   | true => nilRow T hp t
   | false => match T t with
     | some ⟨.slice e, _, _, _, _, _⟩ => match T e with
       | some ye => some (.c (.sl ye.size (some true) true []), hp, 0)
       | none => some (.c (.sl 0 (some true) true []), hp, 0)
     | _ => some (.c (.sl 0 (some true) true []), hp, 0)
 | v => some (v, hp, 0)
def nilOnly : List C -> Bool
 | [.sl _ (some true) true []] => true
 | _ => false
def allocV (T : TypeId -> Option Ty) (ow : Bool) (hp : Hp) (t : TypeId) : R0 := match T t with
 | none => none
 | some y => match y.k with
   | .array n _ => if y.el.length ≠ 0 then some (.ptr hp.length 0 0 0, hp ++ [.mem y.el.length 0 (List.replicate n y.el)], 2) else none
   | .slice e =>
     if ow then match T e with
       | some ye => if nilOnly y.zero = true then some (.ptr (hp.length + 1) 0 0 0, hp ++ [.mem ye.size 0 []] ++ [.box [.buf hp.length 0 0 0]], 2) else none
       | none => none
     else some (.ptr hp.length 0 0 0, hp ++ [.box (y.zero.map .c)], 2)
   | _ => some (.ptr hp.length 0 0 0, hp ++ [.box (y.zero.map .c)], 2)
def boxV (hp : Hp) (v : V) : R0 := if v.cells.all V.one = true then some (.ptr hp.length 0 0 0, hp ++ [.box v.cells], 2) else none
def buildV (T : TypeId -> Option Ty) (hp : Hp) (t : TypeId) (l : List (Nat × V)) : R0 := match T t with
 | none => none
 | some y => match y.k with
   | .struct fs => match fillP (placeOf fs) (y.zero.map .c) l with
     | some cs => some (.agg cs, hp, 0)
     | none => none
   | _ => none
def laid (ow : Bool) (hp : Hp) (sz n : Nat) (l : List (List C)) : R0 :=
 if ow then some (.buf hp.length 0 0 n, hp ++ [.mem sz 0 l], 2) else some (.c (.sl sz (some false) true l), hp, 0)
def buildSliceV (T : TypeId -> Option Ty) (ow : Bool) (hp : Hp) (t : TypeId) (n : Nat) (l : List (Nat × V)) : R0 := match T t with
 | none => none
 | some y => match y.k with
   | .slice e => match T e with
     | none => none
     | some ye =>
       if n * ye.size <= 65536 /\ ye.zero.length = ye.size then
         match fillP (fun i => some (i * ye.size, ye.size)) ((List.replicate n ye.zero).flatten.map .c) l with
         | some cs => match pureL cs with
           | some cs => laid ow hp ye.size n (chunk ye.size n cs)
           | none => none
         | none => none
       else none
   | _ => none
def nilCheckV (hp : Hp) : V -> R0
 | .ptr i e l o => some (.ptr i e l o, hp, 0)
 | .fp cs => some (.fp cs, hp, 0)
 | _ => none
def makeSliceV (T : TypeId -> Option Ty) (hp : Hp) (t : TypeId) (n c : V) : R0 := match T t with
 | none => none
 | some y => match y.k with
   | .slice e => match T e with
     | none => none
     | some ye => match n, c with
       | .c (.int _ l), .c (.int _ m) =>
         if 0 <= l /\ l <= m /\ m < 4294967296 /\ ye.bytes <= 4096 /\ ye.zero.length = ye.size then
           some (.buf hp.length 0 0 l.toNat, hp ++ [.mem ye.size 0 (List.replicate l.toNat ye.zero)], 2)
         else none
       | _, _ => none
   | _ => none
def cutTight (mx : Option Nat) (b : Bool) : Bool := match mx with | some _ => true | none => b
def sliceV (T : TypeId -> Option Ty) (hp : Hp) (t : TypeId) (x : V) (lo hi mx : Option Nat) : R0 := match T t with
 | none => none
 | some y => match y.k, x with
   | .str, .c (.str s) => match mx with
     | none => if lo.getD 0 <= hi.getD s.length /\ hi.getD s.length <= s.length then some (.c (.str ((s.take (hi.getD s.length)).drop (lo.getD 0))), hp, 0) else none
     | some _ => none
   | .slice e, .c (.sl z nl ti xs) => match T e with
     | none => none
     | some ye =>
       if lo.getD 0 <= hi.getD xs.length /\ hi.getD xs.length <= xs.length /\ (mx = none \/ (mx = some (hi.getD xs.length) /\ hi ≠ none)) /\ (z = ye.size \/ xs = []) then
         some (.c (.sl z nl (cutTight mx (ti && decide (hi.getD xs.length = xs.length))) ((xs.take (hi.getD xs.length)).drop (lo.getD 0))), hp, 0)
       else none
   | .slice e, .buf i ep off len => match T e, hp[i]? with
     | some ye, some (.mem z ep' _) =>
       if lo.getD 0 <= hi.getD len /\ hi.getD len <= len /\ (mx = none \/ (mx = some (hi.getD len) /\ hi ≠ none)) /\ z = ye.size /\ ep' = ep then some (.buf i ep (off + lo.getD 0) (hi.getD len - lo.getD 0), hp, 1) else none
     | _, _ => none
   | _, _ => none
def fieldAddrV (T : TypeId -> Option Ty) (hp : Hp) (s : TypeId) (x : V) (f : Nat) : R0 := match T s with
 | none => none
 | some y => match y.k with
   | .struct fs => match fs[f]? with
     | none => none
     | some q => if q.2.1 ≠ 0 then match x with
         | .ptr i ep el o => some (.ptr i ep el (o + q.1), hp, 0)
         | .fp cs => some (.fp (cs.drop q.1), hp, 0)
         | _ => none
       else none
   | _ => none
def fieldV (T : TypeId -> Option Ty) (hp : Hp) (s : TypeId) (x : V) (f : Nat) : R0 := match T s with
 | none => none
 | some y => match y.k, x with
   | .struct fs, .agg xs => match fs[f]? with
     | none => none
     | some q => match part xs q.1 q.2.1 with
       | some l => pureR hp (ofCells q.2.2 l)
       | none => none
   | _, _ => none
def indexAddrV (T : TypeId -> Option Ty) (hp : Hp) (t : TypeId) (x ix : V) : R0 := match ix with
 | .c (.int _ n) => if 0 <= n then match T t with
     | none => none
     | some y => match y.k with
       | .slice e => match T e with
         | none => none
         | some ye => match x with
           | .c (.sl z _ _ xs) => if z = ye.size then match xs[n.toNat]? with
               | some cs => some (.fp cs, hp, 0)
               | none => none
             else none
           | .buf i ep off len => match hp[i]? with
             | some (.mem z ep' _) => if n < len /\ z = ye.size /\ ep' = ep then some (.ptr i ep (off + n.toNat) 0, hp, 1) else none
             | _ => none
           | _ => none
       | .array m e => match T e with
         | none => none
         | some ye => if n < m then match x with
             | .ptr i ep el o => match hp[i]? with
               | some (.mem z _ _) => if el = 0 /\ o = 0 /\ z = ye.size then some (.ptr i ep n.toNat 0, hp, 1) else none
               | some (.box _) => some (.ptr i ep el (o + n.toNat * ye.size), hp, 1)
               | _ => none
             | _ => none
           else none
       | _ => none
   else none
 | _ => none
def indexV (T : TypeId -> Option Ty) (hp : Hp) (t : TypeId) (x ix : V) : R0 := match ix with
 | .c (.int _ n) => if 0 <= n then match T t with
     | none => none
     | some y => match y.k, x with
       | .str, .c (.str s) => match s[n.toNat]? with
         | some b => some (.c (.int .u8 b.toNat), hp, 0)
         | none => none
       | .array m e, .agg xs => if n < m then match T e with
           | some ye => match part xs (n.toNat * ye.size) ye.size with
             | some l => pureR hp (ofCells ye.k.agg l)
             | none => none
           | none => none
         else none
       | _, _ => none
   else none
 | _ => none
def loadR (T : TypeId -> Option Ty) (hp : Hp) (t : TypeId) (v : V) : R0 := match T t with
 | none => none
 | some y => match loadV hp y v with
   | some x => some (x, hp, match v with | .ptr .. => 1 | _ => 0)
   | none => none
def storeR (T : TypeId -> Option Ty) (hp : Hp) (t : TypeId) (v u : V) : R0 := match T t with
 | none => none
 | some y => match storeV hp y v u with
   | some hp' => some (.undef, hp', 3)
   | none => none
def op0 (T : TypeId -> Option Ty) (own : Nat -> Bool) (fr : Fr) (hp : Hp) (o : Oper) : R0 :=
 match o.op with
 | .move x => match opd fr x with
   | some v => moveV T (ownD own o.dst) hp o.type v
   | none => none
 | .assign x => match opd fr x with
   | some v => moveV T (ownD own o.dst) hp o.type v
   | none => none
 | .pick c a b => match opd fr c with
   | some (.c (.bool t)) => pureR hp (if t then opd fr a else opd fr b)
   | _ => none
 | .box _ x => match opd fr x with
   | some v => boxV hp v
   | none => none
 | .alloc t => allocV T (ownD own o.dst) hp t
 | .build t ps => match opdP fr ps.toList with
   | some l => buildV T hp t l
   | none => none
 | .buildSlice t n ps => match opdP fr ps.toList with
   | some l => buildSliceV T (ownD own o.dst) hp t n l
   | none => none
 | .load t a => match opd fr a with
   | some v => loadR T hp t v
   | none => none
 | .store t a x => match opd fr a, opd fr x with
   | some v, some u => storeR T hp t v u
   | _, _ => none
 | .nilCheck x => match opd fr x with
   | some v => nilCheckV hp v
   | none => none
 | .binOp op t x y _ => match opd fr x, opd fr y with
   | some a, some b => pureR hp (bin T op t a b)
   | _, _ => none
 | .unOp op _ x => match opd fr x with
   | some a => pureR hp (un op a)
   | none => none
 | .convert s d x => match opd fr x with
   | some a => pureR hp (conv T s d a)
   | none => none
 | .makeFunc (.func f) first caps => if first.size = 0 then match opdL fr caps.toList with
     | some l => some (.fn f l, hp, 0)
     | none => none
   else none
 | .makeSlice t n c => match opd fr n, opd fr c with
   | some l, some m => makeSliceV T hp t l m
   | _, _ => none
 | .slice t x lo hi mx => match opd fr x, bnd fr lo, bnd fr hi, bnd fr mx with
   | some v, some lo, some hi, some mx => sliceV T hp t v lo hi mx
   | _, _, _, _ => none
 | .fieldAddr s x f => match opd fr x with
   | some v => fieldAddrV T hp s v f
   | none => none
 | .field s x f => match opd fr x with
   | some v => fieldV T hp s v f
   | none => none
 | .indexAddr t x ix => match opd fr x, opd fr ix with
   | some v, some i => indexAddrV T hp t v i
   | _, _ => none
 | .index t x ix => match opd fr x, opd fr ix with
   | some v, some i => indexV T hp t v i
   | _, _ => none
 | .extract x i => match opd fr x with
   | some (.tup vs) => pureR hp vs[i]?
   | _ => none
 | .call ⟨.builtin b, args, ts⟩ => match opdL fr args.toList with
   | some l => bltn T hp b ts.toList l
   | none => none
 | _ => none
mutual
def V.ren (ρ : Nat -> Option Nat) : V -> V
 | .buf i ep off len => match ρ i with | some j => .buf j ep off len | none => .junk
 | .ptr i ep el o => match ρ i with | some j => .ptr j ep el o | none => .junk
 | .fn f caps => .fn f (renL ρ caps)
 | .yl i => match ρ i with | some j => .yl j | none => .junk
 | .agg xs => .agg (renL ρ xs)
 | .tup xs => .tup (renL ρ xs)
 | .junk => .junk | .undef => .undef | .c x => .c x | .fp cs => .fp cs
def renL (ρ : Nat -> Option Nat) : List V -> List V
 | [] => []
 | v :: r => v.ren ρ :: renL ρ r
end
def O.ren (ρ : Nat -> Option Nat) : O -> O
 | .box cs => .box (renL ρ cs)
 | o => o
mutual
def V.ids : V -> List Nat
 | .buf i _ _ _ | .ptr i _ _ _ => [i]
 | .yl i => [i]
 | .fn _ caps => idsL caps
 | .agg xs | .tup xs => idsL xs
 | .junk | .undef | .c _ | .fp _ => []
def idsL : List V -> List Nat
 | [] => []
 | v :: r => v.ids ++ idsL r
end
def O.ids : O -> List Nat
 | .box cs => idsL cs
 | _ => []
def frz1 (hp : Hp) (i ep off len : Nat) : V := match hp[i]? with
 | some (.mem z e xs) => if e = ep then .c (.sl z none false ((xs.drop off).take len)) else .junk
 | _ => .junk
def frzP (hp : Hp) (i el o : Nat) : V := match hp[i]? with
 | some (.box cs) => if el = 0 then (match pureL cs with | some xs => .fp (xs.drop o) | none => .junk) else .junk
 | _ => .junk
mutual
def V.frz (hp : Hp) (p : Nat -> Bool) : V -> V
 | .buf i ep off len => if p i then frz1 hp i ep off len else .buf i ep off len
 | .ptr i ep el o => if p i then frzP hp i el o else .ptr i ep el o
 | .fn f caps => .fn f (frzL hp p caps)
 | .yl i => .yl i
 | .agg xs => .agg (frzL hp p xs)
 | .tup xs => .tup (frzL hp p xs)
 | .junk => .junk | .undef => .undef | .c x => .c x | .fp cs => .fp cs
def frzL (hp : Hp) (p : Nat -> Bool) : List V -> List V
 | [] => []
 | v :: r => v.frz hp p :: frzL hp p r
end
def O.frz (hp : Hp) (p : Nat -> Bool) : O -> O
 | .box cs => .box (frzL hp p cs)
 | o => o
def frzK (p : Nat -> Bool) (hp : Hp) : Nat -> Hp -> Hp
 | _, [] => []
 | k, o :: r => (if p k then .gone else o.frz hp p) :: frzK p hp (k + 1) r
def frzH (p : Nat -> Bool) (hp : Hp) : Hp := frzK p hp 0 hp
def frzF (hp : Hp) (p : Nat -> Bool) : Fr -> Fr
 | [] => []
 | (t, v) :: r => (t, v.frz hp p) :: frzF hp p r
def reach (hp : Hp) : Nat -> List Nat -> List Nat -> List Nat
 | 0, _, seen => seen
 | _, [], seen => seen
 | k + 1, i :: todo, seen =>
   if seen.contains i then reach hp k todo seen
   else reach hp k ((match hp[i]? with | some o => o.ids | none => []) ++ todo) (seen ++ [i])
def idx (l : List Nat) (i : Nat) : Option Nat := match l with
 | [] => none
 | j :: r => if i = j then some 0 else match idx r i with | some k => some (k + 1) | none => none
def take (keep : List Nat) (hp : Hp) : List Nat -> Option Hp
 | [] => some []
 | i :: r => match hp[i]?, take keep hp r with
   | some o, some l => some (o.ren (idx keep) :: l)
   | _, _ => none
def distinct : List Nat -> Bool
 | [] => true
 | i :: r => !r.contains i && distinct r
def gcK (m : Nat) (roots : List Nat) (hp : Hp) : List Nat :=
 let seen := reach hp (2 * hp.length + roots.length + 40) (roots ++ idsH (hp.take m)) []
 List.range m ++ (List.range hp.length).filter fun i => decide (m <= i) && seen.contains i
where
 idsH : Hp -> List Nat
   | [] => []
   | o :: r => o.ids ++ idsH r
def ageI (m : Nat) (H : Hp) (i ep : Nat) : Option Nat := if i < m then some ep else match H[i]? with
 | some (.mem _ e _) => if e = ep then some 0 else none
 | _ => some ep
mutual
def V.young (m : Nat) (H : Hp) : V -> V
 | .buf i ep off len => match ageI m H i ep with | some e => .buf i e off len | none => .junk
 | .ptr i ep el o => match ageI m H i ep with | some e => .ptr i e el o | none => .junk
 | .fn f caps => .fn f (youngL m H caps)
 | .yl i => .yl i
 | .agg xs => .agg (youngL m H xs)
 | .tup xs => .tup (youngL m H xs)
 | .junk => .junk | .undef => .undef | .c x => .c x | .fp cs => .fp cs
def youngL (m : Nat) (H : Hp) : List V -> List V
 | [] => []
 | v :: r => v.young m H :: youngL m H r
end
def O.young (m : Nat) (H : Hp) (i : Nat) : O -> O
 | .box cs => .box (youngL m H cs)
 | .mem z e xs => .mem z (if i < m then e else 0) xs
 | .yo r s => .yo r s
 | .gone => .gone
def youngK (m : Nat) (H : Hp) : Nat -> Hp -> Hp
 | _, [] => []
 | k, o :: r => o.young m H k :: youngK m H (k + 1) r
def youngF (m : Nat) (H : Hp) : Fr -> Fr
 | [] => []
 | (t, v) :: r => (t, v.young m H) :: youngF m H r
def V.flat : V -> Bool
 | .c (.int ..) | .c (.bool _) | .c (.str _) => true
 | _ => false
def flatL : List V -> Bool
 | [] => true
 | v :: r => v.flat && flatL r
def V.bufIds : V -> List Nat
 | .buf i _ _ _ => [i]
 | .agg xs => bufL xs
 | _ => []
where
 bufL : List V -> List Nat
   | [] => []
   | .buf i _ _ _ :: r => i :: bufL r
   | _ :: r => bufL r
def V.capIds : V -> List Nat
 | .fn _ caps => idsL caps
 | _ => []
def snapIds (byref : Nat -> Bool) : Nat -> List V -> List Nat
 | _, [] => []
 | p, v :: r => (if byref p then v.capIds else v.bufIds) ++ snapIds byref (p + 1) r
def setAll (hp : Hp) : List Nat -> Hp -> Hp
 | i :: r, o :: l => setAll (hp.set i o) r l
 | _, _ => hp
def back (ids : List Nat) (n : Nat) (k : Nat) : Option Nat :=
 match ids[k]? with
 | some i => some i
 | none => some (n + (k - ids.length))
def renH (ρ : Nat -> Option Nat) : Hp -> Hp
 | [] => []
 | o :: r => o.ren ρ :: renH ρ r
def noYo : Hp -> Bool
 | [] => true
 | .yo _ _ :: _ => false
 | .box _ :: r => noYo r
 | .mem _ _ _ :: r => noYo r
 | .gone :: r => noYo r
def takeC (keep : List Nat) (hp : Hp) : Option Hp := match take keep hp keep with
 | some h => match noYo h with
   | true => some h
   | false => none
 | none => none
def xcall (byref : Nat -> Bool) (cf : CF) (g : FuncId) (args : List V) (fr : Fr) (hp : Hp) : Option (List V × Fr × Hp × Nat) :=
 let S := snapIds byref 0 args
 let p : Nat -> Bool := fun i => S.contains i
 let args1 := if S.isEmpty then args else frzL hp p args
 let hp1 := if S.isEmpty then hp else frzH p hp
 let ids := reach hp1 (2 * hp.length + 40) (idsL args1) []
 match takeC ids hp1 with
 | none => none
 | some h0 =>
   if distinct ids = true then
     match cf g (renL (idx ids) args1) h0 with
     | none => none
     | some (vals, h1) =>
       if ids.isEmpty && flatL vals && h1.isEmpty then some (vals, fr, hp, if S.isEmpty then 0 else 4)
       else if ids.length <= h1.length /\ noYo h1 = true then
         let ρ := back ids hp1.length
         some (renL ρ vals, if S.isEmpty then fr else frzF hp p fr, setAll hp1 ids (renH ρ (h1.take ids.length)) ++ renH ρ (h1.drop ids.length),
           if S.isEmpty then (if ids.isEmpty then (if h1.isEmpty && (idsL vals).isEmpty then 0 else 2) else 3) else 4)
       else none
   else none
structure Env where
 T : TypeId -> Option Ty
 B : FuncId -> Option Func
 live : FuncId -> Nat -> Option (List Nat)
 head : FuncId -> Nat -> Option (List Nat)
 own : FuncId -> Nat -> Bool
 byref : FuncId -> Nat -> Bool
 frz : FuncId -> Bool
 split : FuncId -> Bool
 fx : FuncId -> List (List Nat)
 wk : FuncId -> List (List Nat)
 ext : FuncId -> Option (List V -> Hp -> Option (List V × Hp))
 seq : FuncId -> List V -> Hp -> Option (List (List V))
structure St where
 fr : Fr
 hp : Hp
inductive Ex where
 | nrm | exit (id : Nat) | ret
 deriving DecidableEq
def tupV : List V -> V
 | [x] => x
 | l => .tup l
mutual
def C.eqb : C -> C -> Bool
 | .int k n, .int k' n' => k == k' && n == n'
 | .bool a, .bool b => a == b
 | .str a, .str b => a == b
 | .sl z nl t xs, .sl z' nl' t' xs' => z == z' && nl == nl' && t == t' && eqbLL xs xs'
 | .pnil, .pnil | .inil, .inil | .fnil, .fnil => true
 | _, _ => false
def eqbL : List C -> List C -> Bool
 | [], [] => true
 | x :: r, y :: s => x.eqb y && eqbL r s
 | _, _ => false
def eqbLL : List (List C) -> List (List C) -> Bool
 | [], [] => true
 | x :: r, y :: s => eqbL x y && eqbLL r s
 | _, _ => false
end
mutual
def V.eqb : V -> V -> Bool
 | .c x, .c y => x.eqb y
 | .fp xs, .fp ys => eqbL xs ys
 | .fn f xs, .fn g ys => f == g && eqbV xs ys
 | .agg xs, .agg ys => eqbV xs ys
 | _, _ => false
def eqbV : List V -> List V -> Bool
 | [], [] => true
 | x :: r, y :: s => x.eqb y && eqbV r s
 | _, _ => false
end
mutual
theorem C.eqb_eq : ∀ {x y : C}, x.eqb y = true -> x = y
 | .int .., y, h => by cases y <;> simp_all [C.eqb]
 | .bool _, y, h => by cases y <;> simp_all [C.eqb]
 | .str _, y, h => by cases y <;> simp_all [C.eqb]
 | .pnil, y, h => by cases y <;> simp_all [C.eqb]
 | .inil, y, h => by cases y <;> simp_all [C.eqb]
 | .fnil, y, h => by cases y <;> simp_all [C.eqb]
 | .sl z nl t xs, .sl z' nl' t' xs', h => by
   simp only [C.eqb, Bool.and_eq_true, beq_iff_eq] at h
   obtain ⟨⟨⟨rfl, rfl⟩, rfl⟩, h⟩ := h
   rw [eqbLL_eq h]
 | .sl .., .int .., h | .sl .., .bool _, h | .sl .., .str _, h | .sl .., .pnil, h | .sl .., .inil, h | .sl .., .fnil, h => by simp [C.eqb] at h
theorem eqbL_eq : ∀ {x y : List C}, eqbL x y = true -> x = y
 | [], [], _ => rfl
 | x :: r, y :: s, h => by
   simp only [eqbL, Bool.and_eq_true] at h
   rw [C.eqb_eq h.1, eqbL_eq h.2]
 | [], _ :: _, h => by simp [eqbL] at h
 | _ :: _, [], h => by simp [eqbL] at h
theorem eqbLL_eq : ∀ {x y : List (List C)}, eqbLL x y = true -> x = y
 | [], [], _ => rfl
 | x :: r, y :: s, h => by
   simp only [eqbLL, Bool.and_eq_true] at h
   rw [eqbL_eq h.1, eqbLL_eq h.2]
 | [], _ :: _, h => by simp [eqbLL] at h
 | _ :: _, [], h => by simp [eqbLL] at h
end
mutual
theorem V.eqb_eq : ∀ {x y : V}, x.eqb y = true -> x = y
 | .c x, y, h => by cases y <;> simp [V.eqb] at h; rw [C.eqb_eq h]
 | .fp x, y, h => by cases y <;> simp [V.eqb] at h; rw [eqbL_eq h]
 | .junk, y, h => by cases y <;> simp [V.eqb] at h
 | .undef, y, h => by cases y <;> simp [V.eqb] at h
 | .buf .., y, h => by cases y <;> simp [V.eqb] at h
 | .ptr .., y, h => by cases y <;> simp [V.eqb] at h
 | .yl .., y, h => by cases y <;> simp [V.eqb] at h
 | .tup .., y, h => by cases y <;> simp [V.eqb] at h
 | .fn f xs, .fn g ys, h => by
   simp only [V.eqb, Bool.and_eq_true, beq_iff_eq] at h
   rw [h.1, eqbV_eq h.2]
 | .agg xs, .agg ys, h => by
   simp only [V.eqb] at h
   rw [eqbV_eq h]
 | .fn .., .junk, h | .fn .., .undef, h | .fn .., .c _, h | .fn .., .fp _, h | .fn .., .buf .., h | .fn .., .ptr .., h | .fn .., .yl _, h | .fn .., .agg _, h | .fn .., .tup _, h => by simp [V.eqb] at h
 | .agg .., .junk, h | .agg .., .undef, h | .agg .., .c _, h | .agg .., .fp _, h | .agg .., .buf .., h | .agg .., .ptr .., h | .agg .., .yl _, h | .agg .., .fn .., h | .agg .., .tup _, h => by simp [V.eqb] at h
theorem eqbV_eq : ∀ {x y : List V}, eqbV x y = true -> x = y
 | [], [], _ => rfl
 | x :: r, y :: s, h => by
   simp only [eqbV, Bool.and_eq_true] at h
   rw [V.eqb_eq h.1, eqbV_eq h.2]
 | [], _ :: _, h => by simp [eqbV] at h
 | _ :: _, [], h => by simp [eqbV] at h
end
def yoHd (rest : List (List V)) (l : List V) : Bool := match rest with
 | [] => false
 | e :: _ => eqbV l e
def yoAns (rest : List (List V)) (stop : Bool) : Bool := !(stop && rest.tail.isEmpty)
def closedL : List V -> Bool
 | [] => true
 | .c _ :: r => closedL r
 | .fp _ :: r => closedL r
 | .agg xs :: r => (match pureL xs with | some _ => closedL r | none => false)
 | _ :: _ => false
def soleYo (hp : Hp) (i : Nat) : Bool := noYo (hp.set i .gone)
def V.top : V -> List Nat
 | .buf i _ _ _ => [i]
 | .ptr i _ _ _ => [i]
 | _ => []
def topsO (fr : Fr) (o : Oper) : List Nat := o.op.operands.toList.flatMap fun x => match opd fr x with
 | some v => v.top
 | none => []
def refk (l : List Nat) (k : Nat) : Nat := match l with
 | [i] => if k = 1 then 5 + 2 * i else if k = 3 then 6 + 2 * i else k
 | _ => k
def opx (E : Env) (cf : CF) (g : FuncId) (fr : Fr) (hp : Hp) (o : Oper) : Option (V × Fr × Hp × Nat) :=
 match o.op with
 | .call ⟨.value f, args, _⟩ => match opd fr f, opdL fr args.toList with
   | some (.fn h caps), some l => match xcall (E.byref h) cf h (mapTL C.fix (E.fx h) (l ++ caps)) fr hp with
     | some (vals, fr', hp', k) => some (tupV vals, fr', hp', k)
     | none => none
   | some (.yl i), some l => match hp[i]? with
     | some (.yo r s) => if yoHd r l = true /\ soleYo hp i = true then some (.b (yoAns r s), fr, hp.set i (.yo r.tail s), 4) else none
     | _ => none
   | _, _ => none
 | _ => match op0 E.T (E.own g) fr hp o with
   | some (v, hp', k) => some (v, fr, hp', refk (topsO fr o) k)
   | none => none
def put (n : Nat) (d : Option Nat) (v : V) (fr : Fr) : Option Fr := match d with
 | some t => if t < n then some ((t, v) :: fr) else none
 | none => some fr
def wantedV (ops : List Oper) (fr : Fr) (o : Oper) : Option Bool := match o.guard with
 | none => some true
 | some (j, want) => match ops[j]? with
   | some q => match q.dst with
     | some d => match get fr d with
       | some .undef => some false
       | some (.c (.bool b)) => some (b == want)
       | _ => none
     | none => none
   | none => none
def runOps (E : Env) (cf : CF) (g n : Nat) (ops : List Oper) : List Oper -> Fr -> Hp -> Option (Fr × Hp × List Nat)
 | [], fr, hp => some (fr, hp, [])
 | o :: r, fr, hp => match wantedV ops fr o with
   | none => none
   | some false => match put n o.dst .undef fr with
     | some fr => match runOps E cf g n ops r fr hp with
       | some (fr, hp, ks) => some (fr, hp, 0 :: ks)
       | none => none
     | none => none
   | some true => match opx E cf g fr hp o with
     | some (v, fr, hp, k) => match put n o.dst v fr with
       | some fr => match runOps E cf g n ops r fr hp with
         | some (fr, hp, ks) => some (fr, hp, k :: ks)
         | none => none
       | none => none
     | none => none
def maskF (l : List Nat) (fr : Fr) : Fr := match l with
 | [] => []
 | t :: r => match get fr t with
   | some v => (t, v) :: maskF r fr
   | none => maskF r fr
def maskO (l : Option (List Nat)) (fr : Fr) : Fr := match l with
 | some l => maskF l fr
 | none => fr
def pair0 (a b : Nat) : Bool := match a, b with
 | 0, 0 | 0, 1 | 0, 2 | 0, 3 | 1, 0 | 2, 0 | 3, 0 | 1, 1 | 1, 2 | 2, 1 => true
 | _, _ => false
def kd (a : Nat) : Nat := if a < 5 then a else if a % 2 = 1 then 1 else 3
def pairOk (a b : Nat) : Bool := pair0 (kd a) (kd b) || (decide (5 <= a) && decide (5 <= b) && !decide ((a - 5) / 2 = (b - 5) / 2))
def looks (ops : List Oper) (o : Oper) : List Nat :=
 (o.op.operands.toList.filterMap fun | .tmp t => some t | _ => none) ++ (match o.guard with | some (j, _) => (match ops[j]? with | some q => q.dst.toList | none => []) | none => [])
def apart (ops : List Oper) (o q : Oper) : Bool :=
 (match o.dst with | some d => !(looks ops q).contains d && !(q.dst == some d) | none => true) && (match q.dst with | some d => !(looks ops o).contains d | none => true)
def ahead : List Oper -> List (List Nat) -> List (List Nat)
 | [], acc => acc
 | o :: r, acc => ahead r (acc ++ [(o.after.toList.flatMap fun e => if Region.binds .any e then e.on :: acc.getD e.on [] else []).eraseDups])
def aheadOk (ops : List Oper) (pre : List (List Nat)) : Bool :=
 (List.range ops.length).all fun j => (pre.getD j []).all fun p => match ops[j]? with
   | some o => o.after.toList.any fun e => Region.binds .any e && (e.on == p || (pre.getD e.on []).contains p)
   | none => false
def backOk (ops : List Oper) : Bool :=
 (List.range ops.length).all fun j => match ops[j]? with
   | some o => o.after.toList.all fun e => !Region.binds .any e || decide (e.on < j)
   | none => true
def drawOk0 (ops : List Oper) (ks : List Nat) : Bool :=
 let pre := ahead ops []
 backOk ops && aheadOk ops pre && (List.range ops.length).all fun j => (List.range j).all fun i => (pre.getD j []).contains i ||
   (pairOk (ks.getD i 4) (ks.getD j 4) && (match ops[i]?, ops[j]? with | some o, some q => apart ops o q | _, _ => false))
def bindsOf (o : Oper) : List Nat := o.after.toList.filterMap fun e => if Region.binds .any e then some e.on else none
def dupOk (_own : Nat → Bool) (_ops : List Oper) : Bool := false
def boxTy (T : TypeId -> Option Ty) (t : TypeId) : Bool := match T t with
 | some y => match y.k with
   | .array .. => false
   | _ => true
 | none => false
def lateAt (T : TypeId -> Option Ty) (own : Nat -> Bool) (ops : List Oper) (ks : List Nat) (j : Nat) : Bool :=
 let pre := ahead ops []
 backOk ops && aheadOk ops pre &&
 (match ops[j]? with
   | some ⟨some d, .alloc t, _, _, _, none⟩ => !own d && boxTy T t
   | _ => false) &&
 ((List.range ops.length).all fun k => (List.range k).all fun i => (pre.getD k []).contains i ||
   ((pairOk (ks.getD i 4) (ks.getD k 4) || k == j) && (match ops[i]?, ops[k]? with | some o, some q => apart ops o q | _, _ => false))) &&
 ((List.range ops.length).all fun k => !decide (j < k) || (List.range (j + 1)).all fun i => (pre.getD k []).contains i) &&
 ((List.range j).all fun i => !(ks.getD i 4 == 4))
def lateOk (T : TypeId -> Option Ty) (own : Nat -> Bool) (ops : List Oper) (ks : List Nat) : Bool := (List.range ops.length).any (lateAt T own ops ks)
def drawOk (T : TypeId -> Option Ty) (own : Nat -> Bool) (ops : List Oper) (ks : List Nat) : Bool := drawOk0 ops ks || (dupOk own ops || lateOk T own ops ks)
def region (E : Env) (cf : CF) (g n : Nat) (id : Nat) (ops : List Oper) (draw : Bool) (s : St) : Option St :=
 match runOps E cf g n ops ops s.fr s.hp with
 | some (fr, hp, ks) => if draw = false \/ drawOk E.T (E.own g) ops ks = true then some ⟨maskO (E.live g id) fr, hp⟩ else none
 | none => none
def firstReg : Code -> Option Nat
 | .region id _ _ => some id
 | .seq a _ => firstReg a
 | .block _ b | .loop b | .scope b => firstReg b
 | _ => none
def frIds : Fr -> List Nat
 | [] => []
 | (_, v) :: r => v.ids ++ frIds r
def renF (ρ : Nat -> Option Nat) : Fr -> Fr
 | [] => []
 | (t, v) :: r => (t, v.ren ρ) :: renF ρ r
def norm (E : Env) (g m : Nat) (body : Code) (s : St) : Option St :=
 let fr := maskO ((firstReg body).bind (E.head g)) s.fr
 if s.hp.length <= m then some ⟨fr, s.hp⟩ else
   let keep := gcK m (frIds fr) s.hp
   match take keep s.hp keep with
   | some hp => if distinct keep = true then some ⟨youngF m hp (renF (idx keep) fr), youngK m hp 0 hp⟩ else none
   | none => none
def iterN : Nat -> (St -> Option (Ex × St)) -> St -> Option (Ex × St)
 | 0, _, _ => none
 | k + 1, f, s => match f s with
   | some (.nrm, s) => iterN k f s
   | r => r
def exec (rg : Nat -> List Oper -> Bool -> St -> Option St) (lp : Nat -> Code -> (St -> Option (Ex × St)) -> St -> Option (Ex × St))
   (rf : Nat -> Operand -> List Nat -> Code -> (Nat -> St -> Option (Ex × St)) -> St -> Option (Ex × St)) : Code -> Nat -> St -> Option (Ex × St)
 | .skip, _, s => some (.nrm, s)
 | .label _, _, s => some (.nrm, s)
 | .region id ops draw, _, s => match rg id ops.toList draw s with
   | some s => some (.nrm, s)
   | none => none
 | .seq a b, m, s => match exec rg lp rf a m s with
   | some (.nrm, s) => exec rg lp rf b m s
   | r => r
 | .cond c x y, m, s => match opd s.fr c with
   | some (.c (.bool t)) => if t then exec rg lp rf x m s else exec rg lp rf y m s
   | _ => none
 | .block id b, m, s => match exec rg lp rf b m s with
   | some (.exit i, s) => if i = id then some (.nrm, s) else some (.exit i, s)
   | r => r
 | .loop b, m, s => lp m b (exec rg lp rf b m) s
 | .rangeFunc f ps a b, m, s => rf m f ps.toList b (fun m s => match exec rg lp rf a m s with
   | some (.nrm, s) => exec rg lp rf b m s
   | _ => none) s
 | .scope b, m, s => exec rg lp rf b m s
 | .exit id, _, s => some (.exit id, s)
 | .ret, _, s => some (.ret, s)
 | _, _, _ => none
def putL (n : Nat) : List Nat -> List V -> Fr -> Option Fr
 | [], [], fr => some fr
 | t :: r, v :: l, fr => match put n (some t) v fr with
   | some fr => putL n r l fr
   | none => none
 | _, _, _ => none
def goneAt : List Nat -> Hp -> Hp
 | [], hp => hp
 | i :: r, hp => goneAt r (hp.set i .gone)
def roundsE (n : Nat) (ps : List Nat) (nm : St -> Option St) (rd : Nat -> St -> Option (Ex × St)) : List (List V) -> St -> Option (Ex × St × List (List V) × Bool)
 | [], s => some (.nrm, s, [], false)
 | e :: r, s => match closedL e, putL n ps e s.fr with
   | true, some fr => match rd s.hp.length ⟨fr, s.hp⟩ with
     | some (.nrm, s1) => match nm ⟨s.fr, s1.hp⟩ with
       | some s2 => match roundsE n ps nm rd r s2 with
         | some (ex, s', u, t) => some (ex, s', e :: u, t)
         | none => none
       | none => none
     | some (ex, s1) => some (ex, ⟨s.fr, s1.hp⟩, [e], true)
     | none => none
   | _, _ => none
def iterOf (E : Env) (gi : FuncId) (caps : List V) (hp : Hp) : Option (List V × Hp × List Nat) :=
 let ids := reach hp (2 * hp.length + 40) (idsL caps) []
 match takeC ids hp with
 | some h0 => if distinct ids = true then some (mapTL C.fix (E.fx gi) (.yl ids.length :: renL (idx ids) caps), h0, ids) else none
 | none => none
def spent (h : Hp) (k : Nat) : Bool := match h[k]? with
 | some (.yo r _) => r.isEmpty
 | _ => false
def rangeG (E : Env) (cf : CF) (g n : Nat) (m : Nat) (f : Operand) (ps : List Nat) (b : Code) (rd : Nat -> St -> Option (Ex × St)) (s : St) : Option (Ex × St) :=
 match opd s.fr f with
 | some (.fn gi caps) => match iterOf E gi caps s.hp with
   | some (args, h0, ids) => match E.seq gi args h0 with
     | some es => match roundsE n ps (norm E g m b) rd es ⟨s.fr, goneAt ids s.hp⟩ with
       | some (ex, s', u, t) => match cf gi args (h0 ++ [.yo u t]) with
         | some (_, h1) => if spent h1 ids.length = true then some (ex, s') else none
         | none => none
       | none => none
     | none => none
   | none => none
 | _ => none
def rangeF (E : Env) (cf : CF) (g n : Nat) (m : Nat) (f : Operand) (ps : List Nat) (b : Code) (rd : Nat -> St -> Option (Ex × St)) (s : St) : Option (Ex × St) :=
 match norm E g m b s with
 | some s => rangeG E cf g n m f ps b rd s
 | none => none
def frame0 : Nat -> List V -> Fr
 | _, [] => []
 | p, v :: r => (p, v) :: frame0 (p + 1) r
def resL (T : TypeId -> Option Ty) (s : St) : List ResultVar -> Option (List V)
 | [] => some []
 | .tmp t :: r => match get s.fr t, resL T s r with
   | some v, some l => some (v :: l)
   | _, _ => none
 | .cell a t :: r => match get s.fr a, T t, resL T s r with
   | some v, some y, some l => match loadV s.hp y v with
     | some x => some (x :: l)
     | none => none
   | _, _, _ => none
def resW (E : Env) (g : FuncId) (s : St) (l : List ResultVar) : Option (List V) := match resL E.T s l with
 | some vals => some (mapTL C.weak (E.wk g) vals)
 | none => none
def leave (fz : Bool) (m : Nat) (vals : List V) (hp : Hp) : Option (List V × Hp) :=
 if hp.length <= m then some (vals, hp) else
   let ids := if fz then idsL vals else []
   let p := fun i => fz && decide (m <= i) && ids.contains i
   let vals := frzL hp p vals
   let hp := frzH p hp
   let keep := gcK m (idsL vals) hp
   match take keep hp keep with
   | some h => if distinct keep = true then some (renL (idx keep) vals, h) else none
   | none => none
def headed (E : Env) (g m : Nat) (b : Code) (f : St -> Option (Ex × St)) (s : St) : Option (Ex × St) := match norm E g m b s with
 | some s => f s
 | none => none
def execF (E : Env) (cf : CF) (K : Nat) (g n : Nat) : Code -> Nat -> St -> Option (Ex × St) :=
 exec (region E cf g n) (fun m b f => iterN K (headed E g m b f)) (rangeF E cf g n)
def runF (E : Env) (cf : CF) (K : Nat) (g : FuncId) (fn : Func) (args : List V) (hp : Hp) : Option (List V × Hp) :=
 match fn.body with
 | none => none
 | some code =>
   let n := args.length + (fn.ntmps - args.length)
   match execF E cf K g n code hp.length ⟨frame0 0 args, hp⟩ with
   | some (.nrm, s) | some (.ret, s) => match resW E g s fn.results.toList with
     | some vals => leave (E.frz g) hp.length vals s.hp
     | none => none
   | _ => none
def nilArg : Bool -> List V -> Option (List V × List V)
 | true, .c (.sl z none t []) :: r => some (.c (.sl z (some true) true []) :: r, .c (.sl z (some false) t []) :: r)
 | _, _ => none
def sameR : Option (List V × Hp) -> Option (List V × Hp) -> Bool
 | some ([.buf i e o l], [.mem z a []]), some ([.buf i' e' o' l'], [.mem z' a' []]) => i == i' && e == e' && o == o' && l == l' && z == z' && a == a'
 | some ([.c (.bool a)], []), some ([.c (.bool b)], []) => a == b
 | some ([.c (.sl z nl t [])], []), some ([.c (.sl z' nl' t' [])], []) => z == z' && nl == nl' && t == t'
 | _, _ => false
theorem sameR_eq {r s : Option (List V × Hp)} (h : sameR r s = true) : r = s := by
 unfold sameR at h
 split at h <;> simp_all
def both (r s : Option (List V × Hp)) : Option (List V × Hp) := if sameR r s then r else none
def callN (E : Env) : Nat -> CF
 | 0, _, _, _ => none
 | k + 1, g, args, hp => match E.ext g with
   | some f => f args hp
   | none => match E.B g with
     | some fn => match nilArg (E.split g) args with
       | some (a, b) => both (runF E (callN E k) k g fn a hp) (runF E (callN E k) k g fn b hp)
       | none => runF E (callN E k) k g fn args hp
     | none => none
end Go.Ev
namespace Go.Ev
inductive RepC (w : World) (A : Nat -> Prop) : C -> Value -> Prop
 | int (k : IntKind) (n : Int) : RepC w A (.int k n) (.int k n)
 | bool (b : Bool) : RepC w A (.bool b) (.bool b)
 | str (s : List UInt8) : RepC w A (.str s) (.string ⟨s.toArray⟩)
 | pnil : RepC w A .pnil (.pointer none)
 | inil : RepC w A .inil .nilIface
 | fnil : RepC w A .fnil .nilFunc
 | slnil (sz : Nat) (nl : Option Bool) (tight : Bool) : nl ≠ some false -> RepC w A (.sl sz nl tight []) (.slice none 0 0)
 | sl (sz : Nat) (nl : Option Bool) (tight : Bool) (xs : List (List C)) (a : Addr) (cap : Nat) (vs : Nat -> Nat -> Value) :
     (cap ≠ 0 -> a.spot = none) -> nl ≠ some true -> (tight = true -> cap = xs.length) -> xs.length <= cap -> (∀ cs ∈ xs, cs.length = sz) →
     (∀ (i j : Nat) (cs : List C) (x : C), xs[i]? = some cs -> cs[j]? = some x -> A a.block /\ w.cell? ⟨a.block, a.off + i * sz + j, none⟩ = some (vs i j)) →
     (∀ (i j : Nat) (cs : List C) (x : C), xs[i]? = some cs -> cs[j]? = some x -> RepC w A x (vs i j)) →
     RepC w A (.sl sz nl tight xs) (.slice (some a) xs.length cap)
theorem cell_same {w w' : World} {b o : Nat} (h : w'.heap[b]? = w.heap[b]?) : w'.cell? ⟨b, o, none⟩ = w.cell? ⟨b, o, none⟩ := by
 simp only [World.cell?, h]
theorem RepC.mono {w w' : World} {A A' : Nat -> Prop} (hw : ∀ b, A b -> w'.heap[b]? = w.heap[b]?) (hA : ∀ b, A b -> A' b) {x : C} {v : Value} (h : RepC w A x v) : RepC w' A' x v := by
 induction h with
 | int => exact .int ..
 | bool => exact .bool ..
 | str => exact .str ..
 | pnil => exact .pnil
 | inil => exact .inil
 | fnil => exact .fnil
 | slnil _ _ _ h => exact .slnil _ _ _ h
 | sl sz nl tight xs a cap vs h1 h2 h3 h4 h5 h6 _ ih =>
   refine .sl sz nl tight xs a cap vs h1 h2 h3 h4 h5 ?_ ih
   intro i j cs x hi hj
   obtain ⟨ha, hc⟩ := h6 i j cs x hi hj
   exact ⟨hA _ ha, (cell_same (hw _ ha)).trans hc⟩
def rowOf (w : World) (b : Nat) : Option Nat := match w.heap[b]? with
 | some (.cells c _ (0, 0)) => some c.size
 | _ => none
structure Ctx where
 K : World -> Prop
 Y : List (List V) -> Bool -> Nat -> (Nat -> Prop) -> (Nat -> Prop) -> World -> Prop
 stable : ∀ {r s b A X w A' w'}, Y r s b A X w -> (∀ c, A c -> A' c) -> (∀ c, A' c -> c < w'.heap.size) -> (∀ c, X c \/ c = b -> ¬ A' c) -> (∀ c, c = b \/ X c \/ A c -> w'.heap[c]? = w.heap[c]?) →
   w.heap.size <= w'.heap.size -> w'.os = w.os -> w'.tape = w.tape -> w'.output = w.output -> Y r s b A' X w'
structure Bl where
 loc : Nat -> Option (Nat × Nat)
 X : Nat -> Prop
 cx : Ctx
instance : CoeFun Bl (fun _ => Nat -> Option (Nat × Nat)) := ⟨Bl.loc⟩
inductive RepV (w : World) (A : Nat -> Prop) (bl : Bl) (H : Hp) : V -> Value -> Prop
 | junk (v : Value) : RepV w A bl H .junk v
 | undef : RepV w A bl H .undef undef
 | c (x : C) (v : Value) : RepC w A x v -> RepV w A bl H (.c x) v
 | fp (cs : List C) (a : Addr) : a.spot = none -> (∀ (j : Nat) (x : C), cs[j]? = some x -> A a.block /\ ∃ u, w.cell? ⟨a.block, a.off + j, none⟩ = some u /\ RepC w A x u) →
     RepV w A bl H (.fp cs) (.pointer (some a))
 | buf (i ep off len : Nat) (a : Option Addr) (l cap : Nat) : i < H.length -> (∀ z e xs, H[i]? = some (.mem z e xs) -> ep <= e) →
     (∀ z xs, H[i]? = some (.mem z ep xs) -> off + len <= xs.length /\ l = len /\ (len <= cap /\ (cap ≠ 0 -> ∀ a0, a = some a0 -> a0.spot = none) /\ (a = none -> cap = 0)) ∧
       (cap ≠ 0 -> ∃ b d n, bl i = some (b, d) /\ a = some ⟨b, d + off * z, none⟩ /\ rowOf w b = some n /\ d + (off + cap) * z <= n)) →
     RepV w A bl H (.buf i ep off len) (.slice a l cap)
 | ptr (i ep el o : Nat) (a : Addr) : i < H.length -> (∀ z e xs, H[i]? = some (.mem z e xs) -> ep <= e) →
     (∀ cs, H[i]? = some (.box cs) -> ∃ b, bl i = some (b, 0) /\ (el = 0 -> a = ⟨b, o, none⟩)) →
     (∀ z xs, H[i]? = some (.mem z ep xs) -> ∃ b d, bl i = some (b, d) /\ a = ⟨b, d + el * z + o, none⟩) →
     RepV w A bl H (.ptr i ep el o) (.pointer (some a))
 | yl (i b : Nat) : i < H.length -> (∀ r s, H[i]? = some (.yo r s) -> bl i = some (b, 0)) -> RepV w A bl H (.yl i) (.func (.yield b) #[] #[])
 | fn (f : FuncId) (caps : List V) (vs : Array Value) : caps.length = vs.size -> (∀ (j : Nat) (x : V) (u : Value), caps[j]? = some x -> vs[j]? = some u -> RepV w A bl H x u) →
     RepV w A bl H (.fn f caps) (.func (.func f) #[] vs)
 | agg (xs : List V) (vs : Array Value) : xs.length = vs.size -> (∀ (j : Nat) (x : V) (u : Value), xs[j]? = some x -> vs[j]? = some u -> RepV w A bl H x u) →
     RepV w A bl H (.agg xs) (.agg vs)
 | tup (xs : List V) (vs : Array Value) : xs.length = vs.size -> (∀ (j : Nat) (x : V) (u : Value), xs[j]? = some x -> vs[j]? = some u -> RepV w A bl H x u) →
     RepV w A bl H (.tup xs) (.tuple vs)
def O.live : O -> Bool
 | .gone => false
 | _ => true
def alive (H : Hp) (i : Nat) : Prop := ∃ o, H[i]? = some o /\ o.live = true
structure Le (w : World) (A : Nat -> Prop) (bl : Bl) (H : Hp) (w' : World) (A' : Nat -> Prop) (bl' : Bl) (H' : Hp) : Prop where
 C : ∀ b, A b -> w'.heap[b]? = w.heap[b]?
 A : ∀ b, A b -> A' b
 len : H.length <= H'.length
 mem : ∀ i z e' xs', i < H.length -> H'[i]? = some (.mem z e' xs') -> ∃ e xs, H[i]? = some (.mem z e xs) /\ e <= e' /\ (e = e' -> xs.length = xs'.length /\ bl' i = bl i)
 box : ∀ i cs', i < H.length -> H'[i]? = some (.box cs') -> ∃ cs, H[i]? = some (.box cs) /\ bl' i = bl i
 yo : ∀ i r' s', i < H.length -> H'[i]? = some (.yo r' s') -> ∃ r s, H[i]? = some (.yo r s) /\ bl' i = bl i
 cx : bl'.cx = bl.cx
 row : ∀ i z e xs xs' b d n, H[i]? = some (.mem z e xs) -> H'[i]? = some (.mem z e xs') -> bl i = some (b, d) -> rowOf w b = some n -> rowOf w' b = some n
theorem Le.refl (w : World) (A : Nat -> Prop) (bl : Bl) (H : Hp) : Le w A bl H w A bl H :=
 ⟨fun _ _ => rfl, fun _ h => h, Nat.le_refl _, fun _ _ _ _ _ h => ⟨_, _, h, Nat.le_refl _, fun _ => ⟨rfl, rfl⟩⟩, fun _ _ _ h => ⟨_, h, rfl⟩, fun _ _ _ _ h => ⟨_, _, h, rfl⟩, rfl, fun _ _ _ _ _ _ _ _ _ _ _ h => h⟩
theorem RepV.mono {w w' : World} {A A' : Nat -> Prop} {bl bl' : Bl} {H H' : Hp} (hl : Le w A bl H w' A' bl' H') {x : V} {v : Value} (h : RepV w A bl H x v) : RepV w' A' bl' H' x v := by
 induction h with
 | junk => exact .junk _
 | undef => exact .undef
 | c x v h => exact .c _ _ (h.mono hl.C hl.A)
 | fp cs a h1 h2 =>
   refine .fp cs a h1 fun j x hj => ?_
   obtain ⟨ha, u, hc, hr⟩ := h2 j x hj
   exact ⟨hl.A _ ha, u, (cell_same (hl.C _ ha)).trans hc, hr.mono hl.C hl.A⟩
 | buf i ep off len a l cap h1 h2 h3 =>
   refine .buf i ep off len a l cap (Nat.lt_of_lt_of_le h1 hl.len) ?_ ?_
   · intro z e xs he
     obtain ⟨e0, xs0, h0, hle, _⟩ := hl.mem i z e xs h1 he
     exact Nat.le_trans (h2 _ _ _ h0) hle
   · intro z xs he
     obtain ⟨e0, xs0, h0, hle, heq⟩ := hl.mem i z ep xs h1 he
     have e1 : e0 = ep := Nat.le_antisymm hle (h2 _ _ _ h0)
     obtain ⟨hlen, hbl⟩ := heq e1
     subst e1
     obtain ⟨h4, h5, h6, h7⟩ := h3 z xs0 h0
     refine ⟨by omega, h5, h6, fun hc => ?_⟩
     obtain ⟨b, d, n, g1, g2, g3, g4⟩ := h7 hc
     exact ⟨b, d, n, hbl.trans g1, g2, hl.row i z _ _ _ b d n h0 he g1 g3, g4⟩
 | ptr i ep el o a h1 h2 h3 h4 =>
   refine .ptr i ep el o a (Nat.lt_of_lt_of_le h1 hl.len) ?_ ?_ ?_
   · intro z e xs he
     obtain ⟨e0, xs0, h0, hle, _⟩ := hl.mem i z e xs h1 he
     exact Nat.le_trans (h2 _ _ _ h0) hle
   · intro cs hc
     obtain ⟨cs0, h0, hb⟩ := hl.box i cs h1 hc
     obtain ⟨b, g1, g2⟩ := h3 _ h0
     exact ⟨b, hb.trans g1, g2⟩
   · intro z xs he
     obtain ⟨e0, xs0, h0, hle, heq⟩ := hl.mem i z ep xs h1 he
     have e1 : e0 = ep := Nat.le_antisymm hle (h2 _ _ _ h0)
     obtain ⟨_, hbl⟩ := heq e1
     subst e1
     obtain ⟨b, d, g1, g2⟩ := h4 z xs0 h0
     exact ⟨b, d, hbl.trans g1, g2⟩
 | yl i b h1 h2 =>
   refine .yl i b (Nat.lt_of_lt_of_le h1 hl.len) fun r s h => ?_
   obtain ⟨r0, s0, h0, hb⟩ := hl.yo i r s h1 h
   exact hb.trans (h2 _ _ h0)
 | fn f caps vs h1 _ ih => exact .fn f caps vs h1 ih
 | agg xs vs h1 _ ih => exact .agg xs vs h1 ih
 | tup xs vs h1 _ ih => exact .tup xs vs h1 ih
theorem Le.trans {w w1 w2 : World} {A A1 A2 : Nat -> Prop} {bl bl1 bl2 : Bl} {H H1 H2 : Hp} (h : Le w A bl H w1 A1 bl1 H1) (k : Le w1 A1 bl1 H1 w2 A2 bl2 H2) : Le w A bl H w2 A2 bl2 H2 := by
 refine ⟨fun b hb => (k.C b (h.A b hb)).trans (h.C b hb), fun b hb => k.A b (h.A b hb), Nat.le_trans h.len k.len, fun i z e2 xs2 hi h2 => ?_, fun i cs2 hi h2 => ?_, fun i r2 s2 hi h2 => ?_, k.cx.trans h.cx, fun i z e xs xs2 b d n h0 h2 hb hr => ?_⟩
 · obtain ⟨e1, xs1, g1, g2, g3⟩ := k.mem i z e2 xs2 (Nat.lt_of_lt_of_le hi h.len) h2
   obtain ⟨e0, xs0, q1, q2, q3⟩ := h.mem i z e1 xs1 hi g1
   refine ⟨e0, xs0, q1, Nat.le_trans q2 g2, fun he => ?_⟩
   obtain ⟨r1, r2⟩ := q3 (by omega)
   obtain ⟨s1, s2⟩ := g3 (by omega)
   exact ⟨r1.trans s1, s2.trans r2⟩
 · obtain ⟨cs1, g1, g2⟩ := k.box i cs2 (Nat.lt_of_lt_of_le hi h.len) h2
   obtain ⟨cs0, q1, q2⟩ := h.box i cs1 hi g1
   exact ⟨cs0, q1, g2.trans q2⟩
 · obtain ⟨r1, s1, g1, g2⟩ := k.yo i r2 s2 (Nat.lt_of_lt_of_le hi h.len) h2
   obtain ⟨r0, s0, q1, q2⟩ := h.yo i r1 s1 hi g1
   exact ⟨r0, s0, q1, g2.trans q2⟩
 · have hi : i < H.length := (List.getElem?_eq_some_iff.1 h0).1
   obtain ⟨e1, xs1, g1, g2, g3⟩ := k.mem i z e xs2 (Nat.lt_of_lt_of_le hi h.len) h2
   obtain ⟨e0, xs0, q1, q2, q3⟩ := h.mem i z e1 xs1 hi g1
   rw [h0] at q1
   simp only [Option.some.injEq, O.mem.injEq, true_and] at q1
   obtain ⟨rfl, rfl⟩ := q1
   have : e = e1 := by omega
   subst this
   exact k.row i z e xs1 xs2 b d n g1 h2 ((q3 rfl).2.trans hb) (h.row i z e xs xs1 b d n h0 g1 hb hr)
def RepO (w : World) (A : Nat -> Prop) (bl : Bl) (H : Hp) (i : Nat) : O -> Prop
 | .gone => True
 | .box cs => ∃ b arr t, bl i = some (b, 0) /\ w.heap[b]? = some (.cells arr t (0, 0)) /\ arr.size = cs.length /\ ∀ (j : Nat) (x : V) (u : Value), cs[j]? = some x -> arr[j]? = some u -> RepV w A bl H x u
 | .mem z _ xs => (∀ cs ∈ xs, cs.length = z) /\ (bl i = none -> xs = []) /\ ∀ b d, bl i = some (b, d) -> ∃ arr t, w.heap[b]? = some (.cells arr t (0, 0)) /\ d + xs.length * z <= arr.size ∧
     ∀ (k j : Nat) (cs : List C) (x : C), xs[k]? = some cs -> cs[j]? = some x -> ∃ u, arr[d + k * z + j]? = some u /\ RepC w A x u
 | .yo r s => ∃ b, bl i = some (b, 0) /\ bl.cx.Y r s b A bl.X w
def Based (w : World) (A : Nat -> Prop) (K : World -> Prop) : Prop := ∃ w0, K w0 /\ ∀ b, b < w0.heap.size -> A b /\ w.heap[b]? = w0.heap[b]?
theorem Based.mono {w w' : World} {A A' : Nat -> Prop} {K : World -> Prop} (h : Based w A K) (hA : ∀ b, A b -> A' b) (hC : ∀ b, A b -> w'.heap[b]? = w.heap[b]?) : Based w' A' K := by
 obtain ⟨w0, h1, h2⟩ := h
 exact ⟨w0, h1, fun b hb => ⟨hA b (h2 b hb).1, (hC b (h2 b hb).1).trans (h2 b hb).2⟩⟩
structure RepH (w : World) (A : Nat -> Prop) (bl : Bl) (H : Hp) : Prop where
 obj : ∀ i o, H[i]? = some o -> RepO w A bl H i o
 inj : ∀ i j b d d', i ≠ j -> alive H i -> alive H j -> bl i = some (b, d) -> bl j = some (b, d') -> False
 lt : ∀ i b d, alive H i -> bl i = some (b, d) -> b < w.heap.size /\ ¬ A b
 alt : ∀ b, A b -> b < w.heap.size
 xlt : ∀ b, bl.X b -> b < w.heap.size /\ ¬ A b
 xinj : ∀ i b d, alive H i -> bl i = some (b, d) -> ¬ bl.X b
 base : Based w A bl.cx.K
def Liv (bl : Bl) (H : Hp) (b : Nat) : Prop := (∃ i d, alive H i /\ bl i = some (b, d)) \/ bl.X b
structure Evo (w : World) (A L : Nat -> Prop) (w' : World) (A' L' : Nat -> Prop) : Prop where
 os : w'.os = w.os
 tape : w'.tape = w.tape
 output : w'.output = w.output
 size : w.heap.size <= w'.heap.size
 keep : ∀ b, b < w.heap.size -> ¬ L b -> w'.heap[b]? = w.heap[b]?
 live : ∀ b, L' b -> L b \/ w.heap.size <= b
 from_ : ∀ b, A' b -> A b \/ L b \/ w.heap.size <= b
theorem Evo.refl (w : World) (A L : Nat -> Prop) : Evo w A L w A L := ⟨rfl, rfl, rfl, Nat.le_refl _, fun _ _ _ => rfl, fun _ h => .inl h, fun _ h => .inl h⟩
theorem Evo.trans {w w1 w2 : World} {A A1 A2 L L1 L2 : Nat -> Prop} (h : Evo w A L w1 A1 L1) (k : Evo w1 A1 L1 w2 A2 L2) : Evo w A L w2 A2 L2 :=
 ⟨k.os.trans h.os, k.tape.trans h.tape, k.output.trans h.output, Nat.le_trans h.size k.size,
  fun b hb hL => (k.keep b (Nat.lt_of_lt_of_le hb h.size) (fun h1 => (h.live b h1).elim hL (fun h2 => by omega))).trans (h.keep b hb hL),
  fun b hb => (k.live b hb).elim (fun h1 => h.live b h1) (fun h1 => .inr (Nat.le_trans h.size h1)),
  fun b hb => (k.from_ b hb).elim (fun h1 => h.from_ b h1) (fun h1 => h1.elim (fun h2 => (h.live b h2).elim (fun h3 => .inr (.inl h3)) (fun h3 => .inr (.inr h3))) (fun h2 => .inr (.inr (Nat.le_trans h.size h2))))⟩
structure RepF (w : World) (A : Nat -> Prop) (bl : Bl) (H : Hp) (fr : Fr) (tmps : Array Value) : Prop where
 at_ : ∀ t v, get fr t = some v -> ∃ u, tmps[t]? = some u /\ RepV w A bl H v u
theorem RepF.mono {w w' : World} {A A' : Nat -> Prop} {bl bl' : Bl} {H H' : Hp} (hl : Le w A bl H w' A' bl' H') {fr : Fr} {tmps : Array Value} (h : RepF w A bl H fr tmps) : RepF w' A' bl' H' fr tmps :=
 ⟨fun t v ht => let ⟨u, h1, h2⟩ := h.at_ t v ht; ⟨u, h1, h2.mono hl⟩⟩
section
variable {w : World} {A : Nat -> Prop} {bl : Bl} {H : Hp} {fr : Fr} {a : Act}
theorem cOf_rep {v : Value} {x : C} (h : cOf v = some x) : RepC w A x v := by
 unfold cOf at h
 split at h <;> simp only [Option.some.injEq, reduceCtorEq] at h <;> subst h
 · exact .int ..
 · exact .bool ..
 · rename_i s
   have := RepC.str (w := w) (A := A) s.data.toList
   simpa using this
 · exact .slnil _ _ _ (by simp)
 · exact .pnil
 · exact .inil
 · exact .fnil
theorem opd_rep (hF : RepF w A bl H fr a.tmps) {x : Operand} {v : V} (h : opd fr x = some v) : RepV w A bl H v (a.eval x) := by
 unfold opd at h
 split at h
 · obtain ⟨u, h1, h2⟩ := hF.at_ _ _ h
   simp only [Act.eval, Array.getD_eq_getD_getElem?, h1, Option.getD_some]
   exact h2
 · split at h <;> simp only [Option.some.injEq, reduceCtorEq] at h
   subst h
   exact .c _ _ (cOf_rep ‹_›)
 · simp only [Option.some.injEq] at h
   subst h
   exact .fn _ [] #[] rfl (fun j x u hj => by simp at hj)
 · simp at h
theorem opdL_rep (hF : RepF w A bl H fr a.tmps) : ∀ {xs : List Operand} {vs : List V}, opdL fr xs = some vs -> vs.length = xs.length /\ ∀ (j : Nat) (x : V) (u : Value), vs[j]? = some x -> (xs.map a.eval)[j]? = some u -> RepV w A bl H x u
 | [], vs, h => by
   simp only [opdL, Option.some.injEq] at h
   subst h
   exact ⟨rfl, fun j x u hj => by simp at hj⟩
 | x :: r, vs, h => by
   simp only [opdL] at h
   split at h <;> simp only [Option.some.injEq, reduceCtorEq] at h
   rename_i v l h1 h2
   subst h
   obtain ⟨g1, g2⟩ := opdL_rep hF h2
   refine ⟨by simp [g1], fun j y u hj hu => ?_⟩
   cases j with
   | zero =>
     simp only [List.getElem?_cons_zero, Option.some.injEq, List.map_cons] at hj hu
     subst hj; subst hu
     exact opd_rep hF h1
   | succ j =>
     simp only [List.getElem?_cons_succ, List.map_cons] at hj hu
     exact g2 j y u hj hu
end
end Go.Ev
namespace Go.Ev
theorem cOfL_len : ∀ {l : List Value} {m : List C}, cOfL l = some m -> m.length = l.length
 | [], m, h => by simp only [cOfL, Option.some.injEq] at h; subst h; rfl
 | v :: r, m, h => by
   simp only [cOfL] at h
   split at h <;> simp only [Option.some.injEq, reduceCtorEq] at h
   subst h
   simp [cOfL_len ‹_›]
theorem cOfL_rep {w : World} {A : Nat -> Prop} : ∀ {l : List Value} {m : List C}, cOfL l = some m -> ∀ (j : Nat) (x : C) (u : Value), m[j]? = some x -> l[j]? = some u -> RepC w A x u
 | [], m, h => by simp only [cOfL, Option.some.injEq] at h; subst h; intro j x u hj; simp at hj
 | v :: r, m, h => by
   simp only [cOfL] at h
   split at h <;> simp only [Option.some.injEq, reduceCtorEq] at h
   rename_i y l h1 h2
   subst h
   intro j x u hj hu
   cases j with
   | zero => simp only [List.getElem?_cons_zero, Option.some.injEq] at hj hu; subst hj; subst hu; exact cOf_rep h1
   | succ j => simp only [List.getElem?_cons_succ] at hj hu; exact cOfL_rep h2 j x u hj hu
theorem RepC.none_sz {w : World} {A : Nat -> Prop} {n z : Nat} {nl : Option Bool} {t : Bool} {u : Value} (h : RepC w A (.sl n nl t []) u) : RepC w A (.sl z nl t []) u := by
 generalize hx : C.sl n nl t [] = x at h
 cases h with
 | slnil _ _ _ h1 => cases hx; exact .slnil _ _ _ h1
 | sl _ _ _ xs a cap vs g1 g2 g3 g4 g5 g6 g7 =>
   cases hx
   exact .sl _ _ _ [] a cap vs g1 g2 g3 g4 (by simp) (by simp) (by simp)
 | _ => cases hx
theorem RepC.less {w : World} {A : Nat -> Prop} {n : Nat} {nl : Option Bool} {t : Bool} {xs : List (List C)} {u : Value} (h : RepC w A (.sl n nl t xs) u) : RepC w A (.sl n none false xs) u := by
 generalize hx : C.sl n nl t xs = x at h
 cases h with
 | slnil => cases hx; exact .slnil _ _ _ (by simp)
 | sl _ _ _ xs a cap vs g1 g2 g3 g4 g5 g6 g7 =>
   cases hx
   exact .sl _ _ _ _ a cap vs g1 (by simp) (by simp) g4 g5 g6 g7
 | _ => cases hx
theorem C.fix_rep {w : World} {A : Nat -> Prop} {x : C} {u : Value} (z : Nat) (h : RepC w A x u) : RepC w A (x.fix z) u := by
 unfold C.fix
 split
 · split
   · split
     · exact h.none_sz
     · exact h
   · exact h
 · exact h
theorem C.weak_rep {w : World} {A : Nat -> Prop} {x : C} {u : Value} (z : Nat) (h : RepC w A x u) : RepC w A (x.weak z) u := by
 unfold C.weak
 split
 · split
   · split
     · exact h.none_sz.less
     · exact h.less
   · exact h.less
 · exact h
inductive FixOf : List C -> List C -> Prop
 | nil : FixOf [] []
 | cons {x : C} {l m : List C} (z : Nat) : FixOf l m -> FixOf (x :: l) (x.fix z :: m)
 | same {x : C} {l m : List C} : FixOf l m -> FixOf (x :: l) (x :: m)
theorem FixOf.refl : ∀ l, FixOf l l
 | [] => .nil
 | _ :: l => .same (FixOf.refl l)
theorem FixOf.append {l m l' m' : List C} (h : FixOf l m) (h' : FixOf l' m') : FixOf (l ++ l') (m ++ m') := by
 induction h with
 | nil => exact h'
 | cons z _ ih => exact .cons z ih
 | same _ ih => exact .same ih
theorem FixOf.rows {l m : List C} (h : FixOf l m) : ∀ n, FixOf (List.replicate n l).flatten (List.replicate n m).flatten
 | 0 => .nil
 | n + 1 => by simp only [List.replicate_succ, List.flatten_cons]; exact h.append (h.rows n)
theorem FixOf.length {l m : List C} (h : FixOf l m) : m.length = l.length := by
 induction h with
 | nil => rfl
 | cons z _ ih => simp [ih]
 | same _ ih => simp [ih]
theorem fixTags_of : ∀ (tags : List Nat) (l : List C), FixOf l (fixTags tags l)
 | [], l => by simp only [fixTags]; exact .refl l
 | _ :: _, [] => .nil
 | z :: r, x :: l => .cons z (fixTags_of r l)
theorem FixOf.rep {w : World} {A : Nat -> Prop} {l m : List C} (h : FixOf l m) : ∀ {vs : List Value}, (∀ (j : Nat) (x : C) (u : Value), l[j]? = some x -> vs[j]? = some u -> RepC w A x u) -> ∀ (j : Nat) (x : C) (u : Value), m[j]? = some x -> vs[j]? = some u -> RepC w A x u := by
 induction h with
 | nil => intro vs _ j x u hj; simp at hj
 | cons z _ ih =>
   intro vs hv j x u hj hu
   cases vs with
   | nil => simp at hu
   | cons v vs =>
     cases j with
     | zero =>
       simp only [List.getElem?_cons_zero, Option.some.injEq] at hj hu
       subst hj; subst hu
       exact C.fix_rep z (hv 0 _ _ rfl rfl)
     | succ j => exact ih (fun j x u h1 h2 => hv (j + 1) x u h1 h2) j x u hj hu
 | same _ ih =>
   intro vs hv j x u hj hu
   cases vs with
   | nil => simp at hu
   | cons v vs =>
     cases j with
     | zero => exact hv 0 _ _ hj hu
     | succ j => exact ih (fun j x u h1 h2 => hv (j + 1) x u h1 h2) j x u hj hu
structure TyIs (P : Program) (t : TypeId) (y : Ty) (i : TypeInfo) (d : TypeDesc) : Prop where
 info : P.info? t = some i
 und : P.underlying t = some d
 k : y.k = kOf P d
 size : y.size = i.size
 bytes : y.bytes = i.bytes
 eq : y.eq = eqOf P t
 zero : y.zero.length = y.size -> ∃ z l, i.zero = some z /\ cOfL z.cells.toList = some l /\ FixOf l y.zero
 arr : ∀ n e, d = .array n e -> ∃ j z lz l0, P.info? e = some j /\ j.size = y.el.length /\ i.zero = some z /\ cOfL z.cells.toList = some lz /\ lz = (List.replicate n l0).flatten /\ FixOf l0 y.el
 zero' : (∀ n e, d ≠ .array n e) -> y.zero.length = y.size
 flds : fieldsOk P d = true
theorem tyOf_is {P : Program} {t : TypeId} {y : Ty} (h : tyOf P t = some y) : ∃ i d, TyIs P t y i d := by
 unfold tyOf at h
 split at h
 case h_2 => simp at h
 rename_i i d hi hd
 split at h
 · rename_i n e
   split at h
   case h_2 => simp at h
   rename_i j z hj hz
   split at h
   case h_2 => simp at h
   rename_i ze hze
   split at h
   case h_2 => simp at h
   rename_i l lz hl hlz
   split at h
   case isFalse => simp at h
   rename_i hc
   obtain ⟨c1, c2, c3⟩ := hc
   have c3 := oneL_eq c3
   simp only [Option.some.injEq] at h
   subst h
   refine ⟨i, _, ⟨hi, hd, rfl, rfl, rfl, rfl, ?_, ?_, fun hne => absurd rfl (hne _ _), rfl⟩⟩
   · intro h0
     simp only [List.length_nil] at h0
     have : lz = [] := by
       rw [c3]; apply List.eq_nil_of_length_eq_zero
       simp [List.length_flatten]; rw [<- c2]; omega
     exact ⟨z, _, hz, hlz, by rw [this]; exact .nil⟩
   · intro n' e' he
     cases he
     exact ⟨j, z, lz, l, hj, by rw [(fixTags_of _ l).length]; exact c1, hz, hlz, c3, fixTags_of _ l⟩
 · rename_i hna
   split at h
   case h_2 => simp at h
   rename_i z hz
   split at h
   case h_2 => simp at h
   rename_i l hl
   split at h
   case isFalse => simp at h
   rename_i hlen
   simp only [Option.some.injEq] at h
   subst h
   exact ⟨i, d, ⟨hi, hd, rfl, rfl, rfl, rfl, fun _ => ⟨z, l, hz, hl, fixTags_of _ l⟩, fun n e he => absurd he (hna n e), fun _ => ((fixTags_of _ l).length).trans hlen.1, hlen.2⟩⟩
theorem kOf_slice {P : Program} {d : TypeDesc} {e : TypeId} (h : K.slice e = kOf P d) : d = .slice e := by
 unfold kOf at h; split at h <;> simp_all
theorem kOf_array {P : Program} {d : TypeDesc} {n : Nat} {e : TypeId} (h : K.array n e = kOf P d) : d = .array n e := by
 unfold kOf at h; split at h <;> simp_all
theorem kOf_str {P : Program} {d : TypeDesc} (h : K.str = kOf P d) : d = .string := by
 unfold kOf at h; split at h <;> simp_all
theorem kOf_bool {P : Program} {d : TypeDesc} (h : K.bool = kOf P d) : d = .bool := by
 unfold kOf at h; split at h <;> simp_all
theorem kOf_int {P : Program} {d : TypeDesc} {k : IntKind} (h : K.int k = kOf P d) : d = .int k := by
 unfold kOf at h; split at h <;> simp_all
theorem kOf_ptr {P : Program} {d : TypeDesc} {e : TypeId} (h : K.ptr e = kOf P d) : d = .pointer e := by
 unfold kOf at h; split at h <;> simp_all
theorem kOf_struct {P : Program} {d : TypeDesc} {fs : List (Nat × Nat × Bool)} (h : K.struct fs = kOf P d) : ∃ l, d = .struct l /\ fs = l.toList.map fun f => (f.offset, sizeAt P f.type, aggAt P f.type) := by
 unfold kOf at h; split at h <;> simp_all
theorem kOf_agg {P : Program} {d : TypeDesc} : (kOf P d).agg = (match d with | .struct _ | .array _ _ => true | _ => false) := by
 cases d <;> rfl
theorem run_isAgg {P : Program} {t : TypeId} {d : TypeDesc} (h : P.underlying t = some d) (w : World) : (isAgg t).run P w = .ok (kOf P d).agg w := by
 rw [kOf_agg]
 unfold isAgg
 rw [Sem.run_bind, run_underlying h w]
 simp only [Result.andThen_ok]
 cases d <;> rfl
theorem run_sizeOf {P : Program} {t : TypeId} {i : TypeInfo} (h : P.info? t = some i) (w : World) : (sizeOf t).run P w = .ok i.size w := by
 simp [sizeOf, typeInfo, h]
theorem run_isAggAt {P : Program} {t : TypeId} {d : TypeDesc} (h : P.underlying t = some d) (w : World) : (isAgg t).run P w = .ok (aggAt P t) w := by
 rw [run_isAgg h, kOf_agg]
 unfold aggAt
 rw [h]
 cases d <;> rfl
theorem run_sizeAt {P : Program} {t : TypeId} {i : TypeInfo} (h : P.info? t = some i) (w : World) : (sizeOf t).run P w = .ok (sizeAt P t) w := by
 rw [run_sizeOf h]; simp [sizeAt, h]
section
variable {P : Program} {w : World} {A : Nat -> Prop} {bl : Bl} {H : Hp} {fr : Fr} {a : Act}
def Out (P : Program) (a : Act) (o : Oper) (w : World) (A : Nat -> Prop) (bl : Bl) (H : Hp) (v : V) (H' : Hp) : Prop :=
 ∃ r w' A' bl', ((execOp a.eval o).run P w = .ok (.value r) w' \/ ((execOp a.eval o).run P w = .ok .skip w' /\ r = undef)) ∧
   RepV w' A' bl' H' v r /\ RepH w' A' bl' H' /\ Le w A bl H w' A' bl' H' /\ Evo w A (Liv bl H) w' A' (Liv bl' H')
theorem Out.pure {o : Oper} {v : V} (hH : RepH w A bl H) {r : Value} (h : (execOp a.eval o).run P w = .ok (.value r) w) (hv : RepV w A bl H v r) : Out P a o w A bl H v H :=
 ⟨r, w, A, bl, .inl h, hv, hH, Le.refl _ _ _ _, Evo.refl _ _ _⟩
theorem RepV.one {x : V} {u : Value} (h : RepV w A bl H x u) (hx : x.one = true) : u.oneCell' = true /\ u.cells = #[u] := by
 cases h <;> simp [V.one] at hx <;> try (constructor <;> rfl)
 rename_i x hc
 cases hc <;> exact ⟨rfl, rfl⟩
theorem RepV.cells {v : V} {r : Value} (h : RepV w A bl H v r) (hv : v.cells.all V.one = true) :
   r.cells.size = v.cells.length /\ (∀ (j : Nat) (x : V) (u : Value), v.cells[j]? = some x -> r.cells[j]? = some u -> RepV w A bl H x u) /\ (∀ u ∈ r.cells, u.oneCell' = true) := by
 by_cases ha : ∃ xs, v = .agg xs
 · obtain ⟨xs, rfl⟩ := ha
   cases h with
   | agg xs vs h1 h2 =>
     refine ⟨h1.symm, h2, fun u hu => ?_⟩
     simp only [V.cells, Value.cells] at hv hu
     obtain ⟨j, hj, rfl⟩ := Array.mem_iff_getElem.1 hu
     have hj' : j < xs.length := by omega
     have := h2 j xs[j] vs[j] (by simp [hj']) (by simp [hj])
     exact (RepV.one this (List.all_eq_true.1 hv _ (List.getElem_mem hj'))).1
 · have e : v.cells = [v] := by
     cases v <;> first | rfl | exact absurd ⟨_, rfl⟩ ha
   rw [e] at hv ⊢
   have h1 : v.one = true := by simpa using hv
   obtain ⟨g1, g2⟩ := RepV.one h h1
   rw [g2]
   refine ⟨rfl, fun j x u hj hu => ?_, fun u hu => ?_⟩
   · cases j with
     | zero => simp at hj hu; subst hj; subst hu; exact h
     | succ j => simp at hj
   · simp at hu; subst hu; exact g1
theorem RepV.int_inv {k : IntKind} {n : Int} {r : Value} (h : RepV w A bl H (.c (.int k n)) r) : r = .int k n := by
 cases h with | c _ _ h => cases h; rfl
theorem RepV.bool_inv {b : Bool} {r : Value} (h : RepV w A bl H (.c (.bool b)) r) : r = .bool b := by
 cases h with | c _ _ h => cases h; rfl
theorem RepV.str_inv {s : List UInt8} {r : Value} (h : RepV w A bl H (.c (.str s)) r) : r = .string ⟨s.toArray⟩ := by
 cases h with | c _ _ h => cases h; rfl
theorem RepV.agg_inv {xs : List V} {r : Value} (h : RepV w A bl H (.agg xs) r) : ∃ vs, r = .agg vs /\ xs.length = vs.size /\ ∀ (j : Nat) (x : V) (u : Value), xs[j]? = some x -> vs[j]? = some u -> RepV w A bl H x u := by
 cases h with | agg _ vs h1 h2 => exact ⟨vs, rfl, h1, h2⟩
theorem RepV.tup_inv {xs : List V} {r : Value} (h : RepV w A bl H (.tup xs) r) : ∃ vs, r = .tuple vs /\ xs.length = vs.size /\ ∀ (j : Nat) (x : V) (u : Value), xs[j]? = some x -> vs[j]? = some u -> RepV w A bl H x u := by
 cases h with | tup _ vs h1 h2 => exact ⟨vs, rfl, h1, h2⟩
theorem RepV.fp_inv {cs : List C} {r : Value} (h : RepV w A bl H (.fp cs) r) : ∃ a, r = .pointer (some a) /\ a.spot = none /\ ∀ (j : Nat) (x : C), cs[j]? = some x -> A a.block /\ ∃ u, w.cell? ⟨a.block, a.off + j, none⟩ = some u /\ RepC w A x u := by
 cases h with | fp _ a h1 h2 => exact ⟨a, rfl, h1, h2⟩
theorem RepV.ptr_inv {i ep el o : Nat} {r : Value} (h : RepV w A bl H (.ptr i ep el o) r) : ∃ a, r = .pointer (some a) /\ i < H.length /\ (∀ z e xs, H[i]? = some (.mem z e xs) -> ep <= e) ∧
     (∀ cs, H[i]? = some (.box cs) -> ∃ b, bl i = some (b, 0) /\ (el = 0 -> a = ⟨b, o, none⟩)) ∧
     (∀ z xs, H[i]? = some (.mem z ep xs) -> ∃ b d, bl i = some (b, d) /\ a = ⟨b, d + el * z + o, none⟩) := by
 cases h with | ptr _ _ _ _ a h1 h2 h3 h4 => exact ⟨a, rfl, h1, h2, h3, h4⟩
theorem RepV.buf_inv {i ep off len : Nat} {r : Value} (h : RepV w A bl H (.buf i ep off len) r) : ∃ a l cap, r = .slice a l cap /\ i < H.length /\ (∀ z e xs, H[i]? = some (.mem z e xs) -> ep <= e) ∧
     (∀ z xs, H[i]? = some (.mem z ep xs) -> off + len <= xs.length /\ l = len /\ (len <= cap /\ (cap ≠ 0 -> ∀ a0, a = some a0 -> a0.spot = none) /\ (a = none -> cap = 0)) ∧
       (cap ≠ 0 -> ∃ b d n, bl i = some (b, d) /\ a = some ⟨b, d + off * z, none⟩ /\ rowOf w b = some n /\ d + (off + cap) * z <= n)) := by
 cases h with | buf _ _ _ _ a l cap h1 h2 h3 => exact ⟨a, l, cap, rfl, h1, h2, h3⟩
theorem RepV.sl_inv {sz : Nat} {nl : Option Bool} {ti : Bool} {xs : List (List C)} {r : Value} (h : RepV w A bl H (.c (.sl sz nl ti xs)) r) :
   (r = .slice none 0 0 /\ xs = [] /\ nl ≠ some false) \/ ∃ (a : Addr) (cap : Nat) (vs : Nat -> Nat -> Value), r = .slice (some a) xs.length cap /\ (cap ≠ 0 -> a.spot = none) /\ nl ≠ some true /\ (ti = true -> cap = xs.length) /\ xs.length <= cap /\ (∀ cs ∈ xs, cs.length = sz) ∧
     (∀ (i j : Nat) (cs : List C) (x : C), xs[i]? = some cs -> cs[j]? = some x -> A a.block /\ w.cell? ⟨a.block, a.off + i * sz + j, none⟩ = some (vs i j)) ∧
     (∀ (i j : Nat) (cs : List C) (x : C), xs[i]? = some cs -> cs[j]? = some x -> RepC w A x (vs i j)) := by
 cases h with | c _ _ h =>
 cases h with
 | slnil _ _ _ h => exact .inl ⟨rfl, rfl, h⟩
 | sl _ _ _ _ a cap vs h1 h2 h3 h4 h5 h6 h7 => exact .inr ⟨a, cap, vs, rfl, h1, h2, h3, h4, h5, h6, h7⟩
theorem RepV.int (k : IntKind) (n : Int) : RepV w A bl H (.c (.int k n)) (.int k n) := .c _ _ (.int _ _)
theorem RepV.bool (b : Bool) : RepV w A bl H (.c (.bool b)) (.bool b) := .c _ _ (.bool _)
theorem RepV.str (s : List UInt8) : RepV w A bl H (.c (.str s)) (.string ⟨s.toArray⟩) := .c _ _ (.str _)
theorem intBin_run {op : BinOp} {k : IntKind} {x y : Int} {c : C} (ho : op ≠ .shl /\ op ≠ .shr) (h : intBin op k x y = some c) (t : TypeId) : ∃ r, (binOp op t (.int k x) (.int k y)).run P w = .ok r w /\ RepC w A c r := by
 cases op <;> simp only [intBin, Option.some.injEq, reduceCtorEq] at h <;> try contradiction
 all_goals try (subst h)
 all_goals try (split at h <;> simp only [Option.some.injEq, reduceCtorEq] at h <;> subst h)
 all_goals first
   | exact ⟨_, by simp [binOp, Op.intArith, Op.intDiv, Op.intCmp, *]; try rfl, .int _ _⟩
   | exact ⟨_, by simp [binOp, Op.intCmp, *]; try rfl, .bool _⟩
   | (refine ⟨_, ?_, .int _ _⟩; simp [binOp, Op.intBits, Go.bits])
theorem strBin_run {op : BinOp} {x y : List UInt8} {c : C} (h : strBin op x y = some c) (t : TypeId) : ∃ r, (binOp op t (.string ⟨x.toArray⟩) (.string ⟨y.toArray⟩)).run P w = .ok r w /\ RepC w A c r := by
 have tl := ByteArray.toList_mk
 have sz : ∀ l : List UInt8, (ByteArray.mk l.toArray).size = l.length := fun l => by simp [ByteArray.size]
 cases op <;> simp only [strBin, Option.some.injEq, reduceCtorEq] at h
 case add =>
   split at h <;> simp only [Option.some.injEq, reduceCtorEq] at h
   subst h
   rename_i hlt
   refine ⟨.string (⟨x.toArray⟩ ++ ⟨y.toArray⟩), ?_, ?_⟩
   · have : ¬ (IntKind.i64.max < ((x.length + y.length : Nat) : Int)) := by simp [IntKind.max, IntKind.signed, IntKind.bits]; omega
     simp only [binOp, Op.stringOp, sz]
     rw [if_neg (by simpa using this)]
     rfl
   · have e : (ByteArray.mk x.toArray ++ ByteArray.mk y.toArray) = ⟨(x ++ y).toArray⟩ := by
       apply ByteArray.ext
       simp
     rw [e]; exact .str _
 all_goals (subst h; refine ⟨_, ?_, .bool _⟩; simp [binOp, Op.stringOp, tl])
theorem bytes_beq (a b : List UInt8) : ((ByteArray.mk a.toArray) == (ByteArray.mk b.toArray)) = (a == b) := by
 show (a.toArray == b.toArray) = _
 simp
def TypeDesc.lk : TypeDesc -> Option LK
 | .bool => some .bool
 | .int _ => some .int
 | .string => some .str
 | _ => none
theorem eqC_run {k : LK} {x y : C} {r : Bool} {u v : Value} (h : eqC k x y = some r) (hx : RepC w A x u) (hy : RepC w A y v) {d : Nat} {t : TypeId} {td : TypeDesc} (ht : P.underlying t = some td)
   (hk : TypeDesc.lk td = some k) : (Op.equalIn (d + 1) t u v).run P w = .ok r w := by
 unfold eqC at h
 split at h
 · split at h <;> simp only [Option.some.injEq, reduceCtorEq] at h
   subst h
   cases hx; cases hy
   unfold TypeDesc.lk at hk
   split at hk <;> simp at hk
   rename_i hkk _ _
   simp [Op.equalIn, run_underlying ht, hkk]
 · simp only [Option.some.injEq] at h
   subst h
   cases hx; cases hy
   unfold TypeDesc.lk at hk
   split at hk <;> simp at hk
   simp [Op.equalIn, run_underlying ht]
 · simp only [Option.some.injEq] at h
   subst h
   cases hx; cases hy
   unfold TypeDesc.lk at hk
   split at hk <;> simp at hk
   simp [Op.equalIn, run_underlying ht, bytes_beq]
 · simp at h
theorem eqL_cons {k : LK} {ks : List LK} {xs ys : List V} {r : Bool} (h : eqL (k :: ks) xs ys = some r) :
   ∃ x y xs' ys' a b, xs = .c x :: xs' /\ ys = .c y :: ys' /\ eqC k x y = some a /\ eqL ks xs' ys' = some b /\ r = (a && b) := by
 cases xs with
 | nil => simp [eqL] at h
 | cons x xs => cases ys with
   | nil => cases x <;> simp [eqL] at h
   | cons y ys =>
     cases x <;> cases y <;> simp only [eqL, reduceCtorEq] at h
     split at h <;> simp only [Option.some.injEq, reduceCtorEq] at h
     exact ⟨_, _, _, _, _, _, rfl, rfl, ‹_›, ‹_›, h.symm⟩
theorem eqL_app : ∀ {k1 k2 : List LK} {xs ys : List V} {r : Bool}, eqL (k1 ++ k2) xs ys = some r →
   ∃ r1 r2, eqL k1 (xs.take k1.length) (ys.take k1.length) = some r1 /\ eqL k2 (xs.drop k1.length) (ys.drop k1.length) = some r2 /\ r = (r1 && r2)
 | [], k2, xs, ys, r, h => ⟨true, r, by simp [eqL], by simpa using h, by simp⟩
 | k :: k1, k2, xs, ys, r, h => by
   obtain ⟨x, y, xs, ys, a, b, rfl, rfl, ha, hb, rfl⟩ := eqL_cons h
   obtain ⟨r1, r2, h1, h2, rfl⟩ := eqL_app hb
   refine ⟨a && r1, r2, ?_, ?_, by rw [Bool.and_assoc]⟩
   · simp only [List.length_cons, List.take_succ_cons, eqL, ha, h1]
   · simpa using h2
theorem eqL_len : ∀ {k : List LK} {xs ys : List V} {r : Bool}, eqL k xs ys = some r -> xs.length = k.length /\ ys.length = k.length
 | [], xs, ys, r, h => by
   cases xs <;> cases ys <;> simp_all [eqL]
 | k :: ks, xs, ys, r, h => by
   obtain ⟨x, y, xs, ys, a, b, rfl, rfl, _, hb, _⟩ := eqL_cons h
   have := eqL_len hb
   simp [this]
theorem appAll_len {α β : Type} {f : β -> Option (List α)} {n : β -> Nat} : ∀ {l : List β} {r : List α}, (∀ x ∈ l, ∀ s, f x = some s -> s.length = n x) -> appAll (l.map f) = some r -> r.length = (l.map n).sum
 | [], r, _, h => by simp [appAll] at h; subst h; rfl
 | x :: l, r, hf, h => by
   simp only [List.map_cons, appAll] at h
   split at h <;> simp only [Option.some.injEq, reduceCtorEq] at h
   subst h
   rename_i a b ha hb
   simp [hf x (by simp) a ha, appAll_len (fun y hy => hf y (by simp [hy])) hb]
theorem laidOut_sum : ∀ {l : List Field} {o n : Nat}, laidOut P o l n = true -> n = o + (l.map fun f => sizeAt P f.type).sum
 | [], o, n, h => by simp [laidOut] at h; simp [h]
 | f :: l, o, n, h => by
   simp [laidOut] at h
   have := laidOut_sum h.2
   simp; omega
theorem eqAt_len : ∀ {d : Nat} {t : TypeId} {l : List LK}, eqAt P d t = some l -> l.length = sizeAt P t
 | 0, t, l, h => by simp [eqAt] at h
 | d + 1, t, l, h => by
   unfold eqAt at h
   split at h
   · split at h <;> simp at h; subst h; simp [*]
   · split at h <;> simp at h; subst h; simp [*]
   · split at h <;> simp at h; subst h; simp [*]
   · split at h
     · rename_i hc
       have := appAll_len (n := fun f : Field => sizeAt P f.type) (fun f _ s hs => eqAt_len hs) h
       rw [this]
       have := laidOut_sum hc.2.1
       omega
     · simp at h
   · simp at h
def RepL (w : World) (A : Nat -> Prop) (bl : Bl) (H : Hp) (xs : List V) (us : List Value) : Prop :=
 xs.length = us.length /\ ∀ (j : Nat) (x : V) (u : Value), xs[j]? = some x -> us[j]? = some u -> RepV w A bl H x u
theorem RepL.drop {xs : List V} {us : List Value} (h : RepL w A bl H xs us) (n : Nat) : RepL w A bl H (xs.drop n) (us.drop n) :=
 ⟨by simp [h.1], fun j x u hj hu => h.2 (n + j) x u (by simpa using hj) (by simpa using hu)⟩
theorem RepL.take {xs : List V} {us : List Value} (h : RepL w A bl H xs us) (n : Nat) : RepL w A bl H (xs.take n) (us.take n) :=
 ⟨by simp [h.1], fun j x u hj hu => h.2 j x u (by simp only [List.getElem?_take] at hj; split at hj <;> simp_all) (by simp only [List.getElem?_take] at hu; split at hu <;> simp_all)⟩
def valOf (P : Program) (t : TypeId) (us : List Value) : Value := if aggAt P t then .agg us.toArray else us.headD undef
theorem run_part {t : TypeId} {i : TypeInfo} {d : TypeDesc} (hi : P.info? t = some i) (hd : P.underlying t = some d) (us : List Value) (off : Nat) (h : off + sizeAt P t <= us.length) (h1 : aggAt P t = false -> sizeAt P t = 1) :
   (Go.part t us.toArray off).run P w = .ok (valOf P t ((us.drop off).take (sizeAt P t))) w := by
 unfold Go.part
 rw [Sem.run_bind, run_isAggAt hd]
 simp only [Result.andThen_ok]
 unfold valOf
 cases ha : aggAt P t with
 | true =>
   simp only [if_true, Sem.run_bind, run_sizeAt hi, Result.andThen_ok]
   simp
 | false =>
   have h2 := h1 ha
   rw [h2] at h ⊢
   have hlt : off < us.length := by omega
   simp only [Bool.false_eq_true, if_false]
   have e : us.toArray[off]? = some us[off] := by simp [hlt]
   rw [e]
   simp [List.take_one, hlt]
theorem run_fields {D n : Nat} {total : Nat} {xs ys : List V} {us vs : List Value} (hx : RepL w A bl H xs us) (hy : RepL w A bl H ys vs) (hxt : xs.length = total) (hyt : ys.length = total)
   (ih : ∀ {t : TypeId} {l : List LK}, eqAt P n t = some l -> ∀ {xs ys : List V} {us vs : List Value} {r : Bool}, eqL l xs ys = some r -> RepL w A bl H xs us -> RepL w A bl H ys vs →
     (Op.equalIn D t (valOf P t us) (valOf P t vs)).run P w = .ok r w) :
   ∀ (fs : List Field) (off : Nat) (l : List LK) (r : Bool), laidOut P off fs total = true -> (fs.all fun f => f.name != "_") = true -> appAll (fs.map fun f => eqAt P n f.type) = some l →
     eqL l (xs.drop off) (ys.drop off) = some r →
     (forIn (m := Sem) fs ((none, ()) : Option Bool × Unit) fun f _ =>
           if f.name ≠ "_" then do
             let x ← Go.part f.type us.toArray f.offset
             let y ← Go.part f.type vs.toArray f.offset
             let b ← Op.equalIn D f.type x y
             if (!b) = true then pure (ForInStep.done (some false, ())) else pure (ForInStep.yield (none, ()))
           else pure (ForInStep.yield (none, ()))).run P w = .ok (if r then (none, ()) else (some false, ())) w
 | [], off, l, r, h1, h2, h3, h4 => by
   simp [appAll] at h3
   subst h3
   simp only [laidOut, beq_iff_eq] at h1
   subst h1
   have e1 : xs.drop off = [] := by simp [hxt]
   have e2 : ys.drop off = [] := by simp [hyt]
   rw [e1, e2] at h4
   simp [eqL] at h4
   subst h4
   rfl
 | f :: fs, off, l, r, h1, h2, h3, h4 => by
   simp only [laidOut, Bool.and_eq_true, beq_iff_eq] at h1
   obtain ⟨h1a, h1b⟩ := h1
   simp only [List.all_cons, Bool.and_eq_true] at h2
   obtain ⟨h2a, h2b⟩ := h2
   simp only [List.map_cons, appAll] at h3
   split at h3 <;> simp only [Option.some.injEq, reduceCtorEq] at h3
   rename_i la lb hla hlb
   subst h3
   obtain ⟨r1, r2, g1, g2, rfl⟩ := eqL_app h4
   have hlen : la.length = sizeAt P f.type := eqAt_len hla
   have hfit := eqL_len g1
   have hfits : off + sizeAt P f.type <= total := by
     have := laidOut_sum h1b; omega
   have hs : ∃ i d, P.info? f.type = some i /\ P.underlying f.type = some d /\ (aggAt P f.type = false -> sizeAt P f.type = 1) := by
     cases n with
     | zero => simp [eqAt] at hla
     | succ n =>
       unfold eqAt at hla
       split at hla
       · split at hla <;> simp at hla; exact ⟨_, _, ‹_›, ‹_›, fun _ => ‹_›⟩
       · split at hla <;> simp at hla; exact ⟨_, _, ‹_›, ‹_›, fun _ => ‹_›⟩
       · split at hla <;> simp at hla; exact ⟨_, _, ‹_›, ‹_›, fun _ => ‹_›⟩
       · rename_i ht; exact ⟨_, _, ‹_›, ht, fun h => by simp [aggAt, ht] at h⟩
       · simp at hla
   obtain ⟨i, d, hi, hd, hone⟩ := hs
   have px := run_part (P := P) (w := w) hi hd us f.offset (by have := hx.1; omega) hone
   have py := run_part (P := P) (w := w) hi hd vs f.offset (by have := hy.1; omega) hone
   rw [hlen] at g1 g2
   have hE := ih hla g1 ((hx.drop off).take _) ((hy.drop off).take _)
   rw [h1a] at px py
   have hne : f.name ≠ "_" := by simpa using h2a
   simp only [List.forIn_cons]
   rw [if_pos hne]
   simp only [Sem.run_bind, h1a, px, py, Result.andThen_ok, hE]
   cases r1 with
   | false => simp
   | true =>
     simp only [Bool.not_true, Bool.false_eq_true, if_false, Sem.run_pure, Result.andThen_ok, Bool.true_and]
     have := run_fields hx hy hxt hyt ih fs (off + sizeAt P f.type) lb r2 h1b h2b hlb (by simpa [List.drop_drop] using g2)
     exact this
theorem eqL_run : ∀ (n : Nat) {t : TypeId} {l : List LK}, eqAt P n t = some l -> ∀ {D : Nat}, n <= D -> ∀ {xs ys : List V} {us vs : List Value} {r : Bool}, eqL l xs ys = some r -> RepL w A bl H xs us -> RepL w A bl H ys vs →
   (Op.equalIn D t (valOf P t us) (valOf P t vs)).run P w = .ok r w := by
 intro n
 induction n with
 | zero => intro t l h; simp [eqAt] at h
 | succ n ihn =>
   intro t l h D hD xs ys us vs r he hx hy
   obtain ⟨D, rfl⟩ : ∃ m, D = m + 1 := ⟨D - 1, by omega⟩
   have scalar : ∀ {k : LK} {td : TypeDesc}, l = [k] -> P.underlying t = some td -> TypeDesc.lk td = some k -> aggAt P t = false -> (Op.equalIn (D + 1) t (valOf P t us) (valOf P t vs)).run P w = .ok r w := by
     intro k td hl ht hk ha
     subst hl
     obtain ⟨x, y, xs, ys, a, b, rfl, rfl, h1, h2, rfl⟩ := eqL_cons he
     have := eqL_len h2
     obtain rfl : xs = [] := List.eq_nil_of_length_eq_zero this.1
     obtain rfl : ys = [] := List.eq_nil_of_length_eq_zero this.2
     simp [eqL] at h2
     subst h2
     obtain ⟨hx1, hx2⟩ := hx
     obtain ⟨hy1, hy2⟩ := hy
     obtain ⟨u, rfl⟩ : ∃ u, us = [u] := by
       match us, hx1 with
       | [u], _ => exact ⟨u, rfl⟩
     obtain ⟨v, rfl⟩ : ∃ v, vs = [v] := by
       match vs, hy1 with
       | [u], _ => exact ⟨u, rfl⟩
     have rx := hx2 0 _ _ rfl rfl
     have ry := hy2 0 _ _ rfl rfl
     cases rx with | c _ _ rx =>
     cases ry with | c _ _ ry =>
     simp only [valOf, ha, Bool.false_eq_true, if_false, List.headD_cons, Bool.and_true]
     exact eqC_run h1 rx ry ht hk
   have hall := h
   unfold eqAt at h
   split at h
   · rename_i ht; split at h <;> simp at h; exact scalar h.symm ht rfl (by simp [aggAt, ht])
   · rename_i ht; split at h <;> simp at h; exact scalar h.symm ht rfl (by simp [aggAt, ht])
   · rename_i ht; split at h <;> simp at h; exact scalar h.symm ht rfl (by simp [aggAt, ht])
   · rename_i i0 fs hi ht
     split at h
     case isFalse => simp at h
     rename_i hc
     obtain ⟨c1, c2, c3⟩ := hc
     have ha : aggAt P t = true := by simp [aggAt, ht]
     have hlen := eqL_len he
     have hl : l.length = sizeAt P t := eqAt_len hall
     simp only [valOf, ha, if_true]
     rw [Op.equalIn]
     simp only [Sem.run_bind, run_underlying ht, Result.andThen_ok, run_program, c1, Bool.false_eq_true, if_false]
     have := run_fields (P := P) (D := D) (n := n) (total := sizeAt P t) hx hy (by omega) (by omega) (fun h => ihn h (by omega)) fs.toList 0 l r c2 c3 h (by simpa using he)
     rw [<- Array.forIn_toList, this]
     cases r <;> rfl
   · simp at h
theorem eqGuard_plain {op : BinOp} {t : TypeId} {x y : Operand} {u v : Value} (h1 : ¬ (u = .nilIface /\ v = .nilIface)) (h2 : ¬ ((∃ xs, u = .agg xs) /\ ∃ ys, v = .agg ys)) : (eqGuard op t x y u v).run P w = .ok () w := by
 have key : ∀ z : Sem Unit, z = (match (generalizing := false) u, v with
     | .nilIface, .nilIface => do
       if (x matches .const _) || (y matches .const _) then pure () else
         if ← Op.eqGuardIn Op.maxDepth t u v then unsupported (.noEntry "binop/eql: two nil values of an interface type with methods, neither of them the literal nil")
     | .agg _, .agg _ => do
       if !(← program).eqGuardType (← program).depth t then pure () else
         if ← Op.eqGuardIn Op.maxDepth t u v then unsupported (.noEntry "binop/eql: two nil values of an interface type with methods, in a part of a struct or an array")
     | _, _ => pure ()) -> z.run P w = .ok () w := by
   intro z hz
   subst hz
   split
   · exact absurd ⟨rfl, rfl⟩ h1
   · exact absurd ⟨⟨_, rfl⟩, ⟨_, rfl⟩⟩ h2
   · rfl
 cases op <;> first | rfl | exact key _ rfl
theorem eqGuard_agg {op : BinOp} {t : TypeId} {x y : Operand} {us vs : Array Value} (h : P.eqGuardType P.depth t = false) : (eqGuard op t x y (.agg us) (.agg vs)).run P w = .ok () w := by
 cases op <;> first | rfl | simp [eqGuard, h]
theorem run_eq {t : TypeId} {u v : Value} {r : Bool} (hu : ∀ k n, u ≠ .int k n) (hs : ∀ s, u ≠ .string s) (hf : ∀ k n, u ≠ .float k n) (hc : ∀ k n m, u ≠ .complex k n m) (h : (Op.equalIn Op.maxDepth t u v).run P w = .ok r w) :
   (binOp .eql t u v).run P w = .ok (.bool r) w /\ (binOp .neq t u v).run P w = .ok (.bool (!r)) w := by
 constructor
 · unfold binOp
   split <;> first | (exfalso; simp_all; done) | skip
   all_goals first | (simp [Op.equal, h]; done) | (simp_all; done)
 · unfold binOp
   split <;> first | (exfalso; simp_all; done) | skip
   all_goals first | (simp [Op.equal, h]; done) | (simp_all; done)
theorem eq_ptr1 {d : Nat} {t e : TypeId} (ht : P.underlying t = some (.pointer e)) (b : Option Addr) : (Op.equalIn (d + 1) t (.pointer none) (.pointer b)).run P w = .ok b.isNone w := by
 cases b <;> simp [Op.equalIn, run_underlying ht]
theorem eq_ptr2 {d : Nat} {t e : TypeId} (ht : P.underlying t = some (.pointer e)) (b : Option Addr) : (Op.equalIn (d + 1) t (.pointer b) (.pointer none)).run P w = .ok b.isNone w := by
 cases b <;> simp [Op.equalIn, run_underlying ht]
theorem eq_sl {d : Nat} {t e : TypeId} (ht : P.underlying t = some (.slice e)) (b : Option Addr) (n m : Nat) : (Op.equalIn (d + 1) t (.slice b n m) (.slice none 0 0)).run P w = .ok b.isNone w := by
 cases b <;> simp [Op.equalIn, run_underlying ht]
theorem eq_bool {d : Nat} {t : TypeId} (ht : P.underlying t = some .bool) (x y : Bool) : (Op.equalIn (d + 1) t (.bool x) (.bool y)).run P w = .ok (x == y) w := by
 simp [Op.equalIn, run_underlying ht]
theorem eqV_run {T : TypeId -> Option Ty} {t : TypeId} {y : Ty} {a' b' : V} {r : Bool} (hy : tyOf P t = some y) (h : eqV y a' b' = some r) {u v : Value} (hu : RepV w A bl H a' u) (hv : RepV w A bl H b' v) (ox oy : Operand) (op : BinOp) :
   (Op.equalIn Op.maxDepth t u v).run P w = .ok r w /\ (eqGuard op t ox oy u v).run P w = .ok () w /\ (∀ k n, u ≠ .int k n) /\ (∀ s, u ≠ .string s) /\ (∀ k n, u ≠ .float k n) /\ (∀ k n m, u ≠ .complex k n m) := by
 obtain ⟨i, d, hi⟩ := tyOf_is hy
 have hmd : Op.maxDepth = 9999 + 1 := rfl
 unfold eqV at h
 split at h
 · rename_i xs ys
   split at h
   case isFalse => simp at h
   rename_i hc
   obtain ⟨us, rfl, hxl, hxr⟩ := hu.agg_inv
   obtain ⟨vs, rfl, hyl, hyr⟩ := hv.agg_inv
   have he := hi.eq
   unfold eqOf at he
   split at he
   case h_2 => exact absurd he hc.1
   rename_i l hl
   split at he
   case isTrue => exact absurd he hc.1
   rename_i hg
   rw [he] at h
   have ha : aggAt P t = true := by
     have := hc.2
     rw [hi.k, kOf_agg] at this
     unfold aggAt; rw [hi.und]
     cases d <;> simp_all
   have hE := eqL_run (P := P) (w := w) (A := A) (bl := bl) (H := H) 8 hl (D := Op.maxDepth) (by decide) h (xs := xs) (ys := ys) (us := us.toList) (vs := vs.toList) ⟨by simpa using hxl, fun j x u hj hu => hxr j x u hj (by simpa using hu)⟩ ⟨by simpa using hyl, fun j x u hj hu => hyr j x u hj (by simpa using hu)⟩
   simp only [valOf, ha, if_true, Array.toArray_toList] at hE
   exact ⟨hE, eqGuard_agg (by simpa using hg), by simp, by simp, by simp, by simp⟩
 · split at h
   case h_2 => simp at h
   rename_i e he
   have hd : d = .pointer e := kOf_ptr (he.symm.trans hi.k)
   subst hd
   cases hu with | c _ _ hu =>
   cases hu
   unfold isNilP at h
   split at h <;> simp only [Option.some.injEq, reduceCtorEq] at h <;> subst h
   · cases hv with | c _ _ hv =>
     cases hv
     exact ⟨by rw [hmd]; first | exact eq_ptr1 hi.und _ | exact eq_ptr2 hi.und _ | exact eq_sl hi.und _ _ _, eqGuard_plain (by simp) (by simp), by simp, by simp, by simp, by simp⟩
   · obtain ⟨a, rfl, _⟩ := hv.fp_inv
     exact ⟨by rw [hmd]; first | exact eq_ptr1 hi.und _ | exact eq_ptr2 hi.und _ | exact eq_sl hi.und _ _ _, eqGuard_plain (by simp) (by simp), by simp, by simp, by simp, by simp⟩
   · obtain ⟨a, rfl, _⟩ := hv.ptr_inv
     exact ⟨by rw [hmd]; first | exact eq_ptr1 hi.und _ | exact eq_ptr2 hi.und _ | exact eq_sl hi.und _ _ _, eqGuard_plain (by simp) (by simp), by simp, by simp, by simp, by simp⟩
 · split at h
   case h_2 => simp at h
   rename_i e he
   have hd : d = .pointer e := kOf_ptr (he.symm.trans hi.k)
   subst hd
   cases hv with | c _ _ hv =>
   cases hv
   unfold isNilP at h
   split at h <;> simp only [Option.some.injEq, reduceCtorEq] at h <;> subst h
   · cases hu with | c _ _ hu =>
     cases hu
     exact ⟨by rw [hmd]; first | exact eq_ptr1 hi.und _ | exact eq_ptr2 hi.und _ | exact eq_sl hi.und _ _ _, eqGuard_plain (by simp) (by simp), by simp, by simp, by simp, by simp⟩
   · obtain ⟨a, rfl, _⟩ := hu.fp_inv
     exact ⟨by rw [hmd]; first | exact eq_ptr1 hi.und _ | exact eq_ptr2 hi.und _ | exact eq_sl hi.und _ _ _, eqGuard_plain (by simp) (by simp), by simp, by simp, by simp, by simp⟩
   · obtain ⟨a, rfl, _⟩ := hu.ptr_inv
     exact ⟨by rw [hmd]; first | exact eq_ptr1 hi.und _ | exact eq_ptr2 hi.und _ | exact eq_sl hi.und _ _ _, eqGuard_plain (by simp) (by simp), by simp, by simp, by simp, by simp⟩
 · split at h
   case h_2 => simp at h
   rename_i e he
   have hd : d = .slice e := kOf_slice (he.symm.trans hi.k)
   subst hd
   have hv' : v = .slice none 0 0 := by
     rcases hv.sl_inv with ⟨rfl, _⟩ | ⟨a, cap, vs, rfl, h1, h2, _⟩
     · rfl
     · exact absurd rfl h2
   subst hv'
   unfold isNilS at h
   split at h
   case h_2 => simp at h
   rename_i sz nl ti xs
   rcases hu.sl_inv with ⟨rfl, rfl, hnl⟩ | ⟨a, cap, vs, rfl, h1, h2, _⟩
   · have hr : r = true := by
       split at h
       · simp at h; subst h; rename_i b; cases b <;> simp_all
       · simp at h
     subst hr
     exact ⟨by rw [hmd]; first | exact eq_ptr1 hi.und _ | exact eq_ptr2 hi.und _ | exact eq_sl hi.und _ _ _, eqGuard_plain (by simp) (by simp), by simp, by simp, by simp, by simp⟩
   · have hr : r = false := by
       split at h
       · simp at h; subst h; rename_i b; cases b <;> simp_all
       · split at h <;> simp_all
     subst hr
     exact ⟨by rw [hmd]; first | exact eq_ptr1 hi.und _ | exact eq_ptr2 hi.und _ | exact eq_sl hi.und _ _ _, eqGuard_plain (by simp) (by simp), by simp, by simp, by simp, by simp⟩
 · simp at h
theorem bin_run {T : TypeId -> Option Ty} (hT : ∀ t y, T t = some y -> tyOf P t = some y) {op : BinOp} {t : TypeId} {a' b' v : V} (h : bin T op t a' b' = some v) {u u' : Value} (hu : RepV w A bl H a' u) (hv : RepV w A bl H b' u') (ox oy : Operand) :
   ∃ r, (do eqGuard op t ox oy u u'; binOp op t u u' : Sem Value).run P w = .ok r w /\ RepV w A bl H v r := by
 unfold bin at h
 split at h
 · rename_i k x k' y
   obtain rfl := hu.int_inv
   obtain rfl := hv.int_inv
   split at h
   · split at h <;> simp only [Option.some.injEq, reduceCtorEq] at h
     rename_i hy
     subst h
     refine ⟨_, ?_, .int _ _⟩
     rw [Sem.run_bind, eqGuard_plain (by simp) (by simp)]
     simp only [Result.andThen_ok, binOp_shl, shift_shl_any _ _ _ _ hy]
     rfl
   · split at h <;> simp only [Option.some.injEq, reduceCtorEq] at h
     rename_i hy
     subst h
     refine ⟨_, ?_, .int _ _⟩
     rw [Sem.run_bind, eqGuard_plain (by simp) (by simp)]
     simp only [Result.andThen_ok, binOp_shr, shift_shr_any _ _ _ _ hy]
     rfl
   · rename_i n1 n2
     split at h
     case isFalse => simp at h
     rename_i hk
     subst hk
     simp only [Option.map_eq_some_iff] at h
     obtain ⟨c, hc, rfl⟩ := h
     obtain ⟨r, hr, hrep⟩ := intBin_run (P := P) (w := w) (A := A) ⟨fun e => n1 (by rw [e]), fun e => n2 (by rw [e])⟩ hc t
     exact ⟨r, by rw [Sem.run_bind, eqGuard_plain (by simp) (by simp)]; simpa using hr, .c _ _ hrep⟩
 · obtain rfl := hu.str_inv
   obtain rfl := hv.str_inv
   simp only [Option.map_eq_some_iff] at h
   obtain ⟨c, hc, rfl⟩ := h
   obtain ⟨r, hr, hrep⟩ := strBin_run (P := P) (w := w) (A := A) hc t
   exact ⟨r, by rw [Sem.run_bind, eqGuard_plain (by simp) (by simp)]; simpa using hr, .c _ _ hrep⟩
 · split at h
   case h_2 => simp at h
   rename_i hTt
   obtain ⟨i, d, hi⟩ := tyOf_is (hT _ _ hTt)
   have hd : d = .bool := kOf_bool hi.k
   subst hd
   obtain rfl := hu.bool_inv
   obtain rfl := hv.bool_inv
   have hE := fun (x y : Bool) => (eq_bool (P := P) (w := w) (d := 9999) hi.und x y : (Op.equalIn Op.maxDepth t (.bool x) (.bool y)).run P w = .ok (x == y) w)
   have hB := fun x y => run_eq (P := P) (w := w) (by simp) (by simp) (by simp) (by simp) (hE x y)
   split at h <;> simp only [Option.some.injEq, reduceCtorEq] at h <;> subst h
   · exact ⟨_, by rw [Sem.run_bind, eqGuard_plain (by simp) (by simp)]; simpa using (hB _ _).1, .bool _⟩
   · exact ⟨_, by rw [Sem.run_bind, eqGuard_plain (by simp) (by simp)]; simpa using (hB _ _).2, .bool _⟩
 · split at h
   case h_2 => simp at h
   rename_i y hTt
   split at h <;> simp only [Option.map_eq_some_iff, reduceCtorEq] at h
   · obtain ⟨r, hr, rfl⟩ := h
     obtain ⟨g1, g2, g3, g4, g5, g6⟩ := eqV_run (T := T) (hT _ _ hTt) hr hu hv ox oy .eql
     exact ⟨_, by rw [Sem.run_bind, g2]; simpa using (run_eq g3 g4 g5 g6 g1).1, .bool _⟩
   · obtain ⟨r, hr, rfl⟩ := h
     obtain ⟨g1, g2, g3, g4, g5, g6⟩ := eqV_run (T := T) (hT _ _ hTt) hr hu hv ox oy .neq
     exact ⟨_, by rw [Sem.run_bind, g2]; simpa using (run_eq g3 g4 g5 g6 g1).2, .bool _⟩
end
end Go.Ev
namespace Go.Ev
section
variable {P : Program} {w w' : World} {A : Nat -> Prop} {bl : Bl} {H : Hp} {fr : Fr} {a : Act}
structure Grow (w w' : World) : Prop where
 os : w'.os = w.os
 tape : w'.tape = w.tape
 output : w'.output = w.output
 size : w.heap.size <= w'.heap.size
 keep : ∀ b, b < w.heap.size -> w'.heap[b]? = w.heap[b]?
theorem Grow.alloc (w : World) (o : Obj) : Grow w (w.alloc o) :=
 ⟨rfl, rfl, rfl, by simp, fun b hb => by
   show (w.heap.push o)[b]? = _
   rw [Array.getElem?_push, if_neg (Nat.ne_of_lt hb)]⟩
theorem Grow.refl (w : World) : Grow w w := ⟨rfl, rfl, rfl, Nat.le_refl _, fun _ _ => rfl⟩
theorem Grow.drew (w : World) : Grow w w.drew := ⟨rfl, rfl, rfl, Nat.le_refl _, fun _ _ => rfl⟩
theorem Grow.trans {w1 w2 : World} (h : Grow w w1) (k : Grow w1 w2) : Grow w w2 :=
 ⟨k.os.trans h.os, k.tape.trans h.tape, k.output.trans h.output, Nat.le_trans h.size k.size, fun b hb => (k.keep b (Nat.lt_of_lt_of_le hb h.size)).trans (h.keep b hb)⟩
theorem Grow.evo (g : Grow w w') {A' L L' : Nat -> Prop} (hL : ∀ b, L' b -> L b \/ w.heap.size <= b) (hA : ∀ b, A' b -> A b \/ L b \/ w.heap.size <= b) : Evo w A L w' A' L' :=
 ⟨g.os, g.tape, g.output, g.size, fun b hb _ => g.keep b hb, hL, hA⟩
theorem alive_lt {i : Nat} (h : alive H i) : i < H.length := by
 obtain ⟨o, h, _⟩ := h
 exact (List.getElem?_eq_some_iff.1 h).1
structure Ard (w w' : World) (A' : Nat -> Prop) (bl bl' : Bl) : Prop where
 X : bl'.X = bl.X
 alt : ∀ c, A' c -> c < w'.heap.size
 dis : ∀ c, bl.X c -> ¬ A' c
 keep : ∀ c, bl.X c -> w'.heap[c]? = w.heap[c]?
 size : w.heap.size <= w'.heap.size
 os : w'.os = w.os
 tape : w'.tape = w.tape
 output : w'.output = w.output
theorem RepO.mono {A' : Nat -> Prop} {bl' : Bl} {H' : Hp} (hl : Le w A bl H w' A' bl' H') (ha : Ard w w' A' bl bl') {i : Nat} {o : O} (hbl : bl' i = bl i) (hk : ∀ b d, bl i = some (b, d) -> w'.heap[b]? = w.heap[b]?) (hd : ∀ b d, bl i = some (b, d) -> ¬ A' b) (h : RepO w A bl H i o) : RepO w' A' bl' H' i o := by
 cases o with
 | gone => trivial
 | yo r s =>
   obtain ⟨b, h1, h2⟩ := h
   refine ⟨b, hbl.trans h1, ?_⟩
   rw [hl.cx, ha.X]
   exact bl.cx.stable h2 hl.A ha.alt (fun c hc => hc.elim (ha.dis c) (fun e => e ▸ hd b 0 h1)) (fun c hc => by
     rcases hc with rfl | hc | hc
     · exact hk _ _ h1
     · exact ha.keep c hc
     · exact hl.C c hc) ha.size ha.os ha.tape ha.output
 | box cs =>
   obtain ⟨b, arr, t, h1, h2, h3, h4⟩ := h
   exact ⟨b, arr, t, hbl.trans h1, (hk _ _ h1).trans h2, h3, fun j x u hj hu => (h4 j x u hj hu).mono hl⟩
 | mem z e xs =>
   obtain ⟨h1, h2, h3⟩ := h
   refine ⟨h1, fun hn => h2 (hbl ▸ hn), fun b d hb => ?_⟩
   have hb' : bl i = some (b, d) := hbl ▸ hb
   obtain ⟨arr, t, g1, g2, g3⟩ := h3 b d hb'
   refine ⟨arr, t, (hk _ _ hb').trans g1, g2, fun k j cs x hx hj => ?_⟩
   obtain ⟨u, hu, hr⟩ := g3 k j cs x hx hj
   exact ⟨u, hu, hr.mono hl.C hl.A⟩
theorem rowOf_keep {b : Nat} (h : w'.heap[b]? = w.heap[b]?) : rowOf w' b = rowOf w b := by simp only [rowOf, h]
theorem grow (hH : RepH w A bl H) (g : Grow w w') {N : Nat -> Prop} (hN : ∀ b, N b -> w.heap.size <= b /\ b < w'.heap.size) :
   RepH w' (fun b => A b \/ N b) bl H /\ Le w A bl H w' (fun b => A b \/ N b) bl H := by
 have hl : Le w A bl H w' (fun b => A b \/ N b) bl H :=
   ⟨fun b hb => g.keep b (hH.alt b hb), fun b hb => .inl hb, Nat.le_refl _, fun i z e xs _ h => ⟨e, xs, h, Nat.le_refl _, fun _ => ⟨rfl, rfl⟩⟩, fun i cs _ h => ⟨cs, h, rfl⟩, fun i r s _ h => ⟨r, s, h, rfl⟩, rfl,
    fun i z e xs xs' b d n h0 _ hb hr => by rw [rowOf_keep (g.keep b (hH.lt i b d ⟨_, h0, rfl⟩ hb).1)]; exact hr⟩
 have alt : ∀ b, (A b \/ N b) -> b < w'.heap.size := fun b hb => hb.elim (fun h => Nat.lt_of_lt_of_le (hH.alt b h) g.size) (fun h => (hN b h).2)
 have hard : Ard w w' (fun b => A b \/ N b) bl bl := ⟨rfl, alt, fun c hc h => h.elim (hH.xlt c hc).2 (fun h => by have := (hN c h).1; have := (hH.xlt c hc).1; omega), fun c hc => g.keep c (hH.xlt c hc).1, g.size, g.os, g.tape, g.output⟩
 refine ⟨⟨fun i o hi => ?_, hH.inj, fun i b d ha hb => ?_, alt, fun b hb => ⟨Nat.lt_of_lt_of_le (hH.xlt b hb).1 g.size, hard.dis b hb⟩, hH.xinj, hH.base.mono hl.A hl.C⟩, hl⟩
 · cases ho : o.live with
   | false => cases o <;> simp [O.live] at ho; trivial
   | true => exact (hH.obj i o hi).mono hl hard rfl (fun b d hb => g.keep b (hH.lt i b d ⟨o, hi, ho⟩ hb).1) (fun b d hb h => h.elim (hH.lt i b d ⟨o, hi, ho⟩ hb).2 (fun h => by have := (hN b h).1; have := (hH.lt i b d ⟨o, hi, ho⟩ hb).1; omega))
 · obtain ⟨h1, h2⟩ := hH.lt i b d ha hb
   exact ⟨Nat.lt_of_lt_of_le h1 g.size, fun h => h.elim h2 (fun h => by have := hN b h; omega)⟩
def upd (bl : Bl) (n : Nat) (x : Option (Nat × Nat)) : Bl := { bl with loc := fun i => if i = n then x else bl i }
theorem upd_same {n : Nat} {x : Option (Nat × Nat)} : upd bl n x n = x := by simp [upd]
theorem upd_other {n i : Nat} {x : Option (Nat × Nat)} (h : i ≠ n) : upd bl n x i = bl i := by simp [upd, h]
theorem le_push (hH : RepH w A bl H) (g : Grow w w') {A' : Nat -> Prop} (hA : ∀ b, A b -> A' b) (o : O) (x : Option (Nat × Nat)) : Le w A bl H w' A' (upd bl H.length x) (H ++ [o]) :=
 ⟨fun b hb => g.keep b (hH.alt b hb), hA, by simp,
  fun i z e xs hi h => ⟨e, xs, by rwa [List.getElem?_append_left hi] at h, Nat.le_refl _, fun _ => ⟨rfl, upd_other (Nat.ne_of_lt hi)⟩⟩,
  fun i cs hi h => ⟨cs, by rwa [List.getElem?_append_left hi] at h, upd_other (Nat.ne_of_lt hi)⟩,
  fun i r s hi h => ⟨r, s, by rwa [List.getElem?_append_left hi] at h, upd_other (Nat.ne_of_lt hi)⟩, rfl,
  fun i z e xs xs' b d n h0 _ hb hr => by
    rw [rowOf_keep (g.keep b (hH.lt i b d ⟨_, h0, rfl⟩ hb).1)]; exact hr⟩
theorem push (hH : RepH w A bl H) (g : Grow w w') (o : O) (x : Option (Nat × Nat)) (hx : ∀ b d, x = some (b, d) -> w.heap.size <= b /\ b < w'.heap.size)
   (ho : RepO w' A (upd bl H.length x) (H ++ [o]) H.length o) :
   RepH w' A (upd bl H.length x) (H ++ [o]) /\ Le w A bl H w' A (upd bl H.length x) (H ++ [o]) /\ Evo w A (Liv bl H) w' A (Liv (upd bl H.length x) (H ++ [o])) := by
 have hl := le_push hH g (A' := A) (fun b hb => hb) o x
 have old : ∀ {i}, alive (H ++ [o]) i -> i = H.length \/ (i < H.length /\ alive H i) := by
   intro i ha
   have := alive_lt ha
   simp at this
   rcases Nat.lt_or_ge i H.length with h | h
   · obtain ⟨o', h1, h2⟩ := ha
     exact .inr ⟨h, o', by rwa [List.getElem?_append_left h] at h1, h2⟩
   · exact .inl (by omega)
 have hard : Ard w w' A bl (upd bl H.length x) := ⟨rfl, fun b hb => Nat.lt_of_lt_of_le (hH.alt b hb) g.size, fun c hc => (hH.xlt c hc).2, fun c hc => g.keep c (hH.xlt c hc).1, g.size, g.os, g.tape, g.output⟩
 refine ⟨⟨fun i o' hi => ?_, fun i j b d d' hij ha ha' hb hb' => ?_, fun i b d ha hb => ?_, hard.alt, fun b hb => ⟨Nat.lt_of_lt_of_le (hH.xlt b hb).1 g.size, (hH.xlt b hb).2⟩, fun i b d ha hb hX => ?_, hH.base.mono hl.A hl.C⟩, hl, ?_⟩
 · rcases Nat.lt_or_ge i H.length with h | h
   · rw [List.getElem?_append_left h] at hi
     cases hlv : o'.live with
     | false => cases o' <;> simp [O.live] at hlv; trivial
     | true => exact (hH.obj i o' hi).mono hl hard (upd_other (Nat.ne_of_lt h)) (fun b d hb => g.keep b (hH.lt i b d ⟨o', hi, hlv⟩ hb).1) (fun b d hb => (hH.lt i b d ⟨o', hi, hlv⟩ hb).2)
   · have : i = H.length := by
       have := (List.getElem?_eq_some_iff.1 hi).1
       simp at this; omega
     subst this
     simp at hi
     subst hi
     exact ho
 · rcases old ha with rfl | ⟨h, ha⟩ <;> rcases old ha' with rfl | ⟨h', ha'⟩
   · exact hij rfl
   · rw [upd_same] at hb; rw [upd_other (Nat.ne_of_lt h')] at hb'
     have := (hx b d hb).1; have := (hH.lt _ _ _ ha' hb').1; omega
   · rw [upd_same] at hb'; rw [upd_other (Nat.ne_of_lt h)] at hb
     have := (hx b d' hb').1; have := (hH.lt _ _ _ ha hb).1; omega
   · rw [upd_other (Nat.ne_of_lt h)] at hb; rw [upd_other (Nat.ne_of_lt h')] at hb'
     exact hH.inj i j b d d' hij ha ha' hb hb'
 · rcases old ha with rfl | ⟨h, ha⟩
   · rw [upd_same] at hb
     have := hx b d hb
     exact ⟨this.2, fun hA => by have := hH.alt b hA; omega⟩
   · rw [upd_other (Nat.ne_of_lt h)] at hb
     have := hH.lt _ _ _ ha hb
     exact ⟨Nat.lt_of_lt_of_le this.1 g.size, this.2⟩
 · have hX : bl.X b := hX
   rcases old ha with rfl | ⟨h, ha⟩
   · rw [upd_same] at hb
     have := (hx b d hb).1; have := (hH.xlt b hX).1; omega
   · rw [upd_other (Nat.ne_of_lt h)] at hb
     exact hH.xinj _ _ _ ha hb hX
 · refine g.evo (fun b hb => ?_) (fun b hb => .inl hb)
   rcases hb with ⟨i, d, ha, hb⟩ | hb
   · rcases old ha with rfl | ⟨h, ha⟩
     · rw [upd_same] at hb; exact .inr (hx b d hb).1
     · rw [upd_other (Nat.ne_of_lt h)] at hb; exact .inl (.inl ⟨i, d, ha, hb⟩)
   · exact .inl (.inr hb)
theorem int_wrap_neg (k : IntKind) (n : Int) : (Op.unary .neg (.int k n)).run P w = .ok (.int k (k.wrap (0 - n))) w := by simp [Op.unary, Op.intArith]
theorem un_run {op : UnOp} {x v : V} (h : un op x = some v) {u : Value} (hu : RepV w A bl H x u) : ∃ r, (Op.unary op u).run P w = .ok r w /\ RepV w A bl H v r := by
 unfold un at h
 split at h <;> simp only [Option.some.injEq, reduceCtorEq] at h <;> subst h
 · obtain rfl := hu.int_inv
   exact ⟨_, int_wrap_neg _ _, .int _ _⟩
 · obtain rfl := hu.bool_inv
   exact ⟨_, by simp [Op.unary], .bool _⟩
theorem conv_run {T : TypeId -> Option Ty} (hT : ∀ t y, T t = some y -> tyOf P t = some y) {s d : TypeId} {x v : V} (h : conv T s d x = some v) {u : Value} (hu : RepV w A bl H x u) :
   ∃ r, (convert s d u).run P w = .ok r w /\ RepV w A bl H v r := by
 unfold conv at h
 split at h <;> simp only [Option.some.injEq, reduceCtorEq] at h <;> subst h
 · rename_i h1 h2
   obtain ⟨i1, d1, g1⟩ := tyOf_is (hT _ _ h1)
   obtain ⟨i2, d2, g2⟩ := tyOf_is (hT _ _ h2)
   have hd : d2 = .int _ := kOf_int g2.k
   subst hd
   obtain rfl := hu.int_inv
   refine ⟨_, ?_, .int _ _⟩
   unfold convert
   simp [run_underlying g1.und, run_underlying g2.und, Conv.intToInt]
 · rename_i h1 h2
   obtain ⟨i1, d1, g1⟩ := tyOf_is (hT _ _ h1)
   obtain ⟨i2, d2, g2⟩ := tyOf_is (hT _ _ h2)
   have hd : d1 = .string := kOf_str g1.k
   subst hd
   have hd : d2 = .string := kOf_str g2.k
   subst hd
   obtain rfl := hu.str_inv
   refine ⟨_, ?_, .str _⟩
   unfold convert
   simp [run_underlying g1.und, run_underlying g2.und]
theorem part_len {α : Type} {xs l : List α} {off size : Nat} (h : part xs off size = some l) : off + size <= xs.length /\ l = (xs.drop off).take size /\ l.length = size := by
 unfold part at h
 split at h <;> simp only [Option.some.injEq, reduceCtorEq] at h
 subst h
 refine ⟨‹_›, rfl, ?_⟩
 simp; omega
theorem ofCells_rep {t : TypeId} {ag : Bool} {l : List V} {v : V} {us : List Value} (h : ofCells ag l = some v) (hr : RepL w A bl H l us) (hag : aggAt P t = ag) : RepV w A bl H v (valOf P t us) := by
 unfold ofCells at h
 unfold valOf
 rw [hag]
 split at h
 · rename_i ht
   simp only [Option.some.injEq] at h
   subst h
   rw [if_pos ht]
   exact .agg _ _ (by simpa using hr.1) (fun j x u hj hu => hr.2 j x u hj (by simpa using hu))
 · rename_i ht
   rw [if_neg ht]
   split at h <;> simp only [Option.some.injEq, reduceCtorEq] at h
   subst h
   obtain ⟨u, rfl⟩ : ∃ u, us = [u] := by
     match us, hr.1 with
     | [u], _ => exact ⟨u, rfl⟩
   exact hr.2 0 _ _ rfl rfl
theorem field_of {y : Ty} {t : TypeId} {i : TypeInfo} {d : TypeDesc} (hi : TyIs P t y i d) {fs : List (Nat × Nat × Bool)} (hk : y.k = .struct fs) {f off size : Nat} {ag : Bool} (hf : fs[f]? = some (off, size, ag)) :
   ∃ l : Array Field, ∃ g : Field, ∃ gi : TypeInfo, ∃ gd : TypeDesc, d = .struct l /\ l[f]? = some g /\ g.offset = off /\ sizeAt P g.type = size /\ aggAt P g.type = ag /\ P.info? g.type = some gi /\ P.underlying g.type = some gd := by
 obtain ⟨l, rfl, rfl⟩ := kOf_struct (hk.symm.trans hi.k)
 simp only [List.getElem?_map, Option.map_eq_some_iff, Prod.mk.injEq] at hf
 obtain ⟨g, hg, h1, h2, h3⟩ := hf
 have hfl := hi.flds
 simp only [fieldsOk, List.all_eq_true, Bool.and_eq_true] at hfl
 obtain ⟨q1, q2⟩ := hfl g (List.mem_of_getElem? hg)
 obtain ⟨gi, hgi⟩ := Option.isSome_iff_exists.1 q1
 obtain ⟨gd, hgd⟩ := Option.isSome_iff_exists.1 q2
 exact ⟨l, g, gi, gd, rfl, by simpa using hg, h1, h2, h3, hgi, hgd⟩
theorem get_wf {T : TypeId -> Option Ty} (hT : ∀ t y, T t = some y -> tyOf P t = some y) {t : TypeId} {y : Ty} (h : T t = some y) : ∃ i d, TyIs P t y i d := tyOf_is (hT t y h)
theorem op_field {T : TypeId -> Option Ty} (hT : ∀ t y, T t = some y -> tyOf P t = some y) {s : TypeId} {y : Ty} (hs : T s = some y) {fs : List (Nat × Nat × Bool)} (hk : y.k = .struct fs) {f off size : Nat} {ag : Bool} (hf : fs[f]? = some (off, size, ag))
   {xs l : List V} {v : V} (hp : part xs off size = some l) (hv : ofCells ag l = some v) {u : Value} (hu : RepV w A bl H (.agg xs) u) : ∃ r, (Instr.field s u f).run P w = .ok r w /\ RepV w A bl H v r := by
 obtain ⟨i, d, hi⟩ := get_wf hT hs
 obtain ⟨la, g, gi, gd, rfl, hg, h1, h2, h3, h4, h5⟩ := field_of hi hk hf
 obtain ⟨vs, rfl, hl, hr⟩ := hu.agg_inv
 obtain ⟨p1, p2, p3⟩ := part_len hp
 have hone : aggAt P g.type = false -> sizeAt P g.type = 1 := by
   intro ha
   rw [h3] at ha
   subst ha
   unfold ofCells at hv
   simp only [Bool.false_eq_true, if_false] at hv
   split at hv <;> simp only [Option.some.injEq, reduceCtorEq] at hv
   rw [h2, <- p3]; rfl
 have hp' := run_part (P := P) (w := w) h4 h5 vs.toList off (by simp; omega) hone
 refine ⟨_, ?_, ofCells_rep (P := P) (t := g.type) (us := (vs.toList.drop off).take size) hv ?_ h3⟩
 · unfold Instr.field
   simp only [Sem.run_bind, run_underlying hi.und, Result.andThen_ok, hg, asAgg, Sem.run_pure, h1]
   rw [h2] at hp'
   simpa using hp'
 · subst p2
   exact RepL.take (RepL.drop ⟨by simpa using hl, fun j x u hj hu => hr j x u hj (by simpa using hu)⟩ off) size
theorem bnd_rep (hF : RepF w A bl H fr a.tmps) {x : Option Operand} {n : Option Nat} (h : bnd fr x = some n) : (x = none /\ n = none) \/ ∃ o k m, x = some o /\ n = some m /\ a.eval o = .int k (m : Int) := by
 cases x with
 | none => simp [bnd] at h; exact .inl ⟨rfl, h.symm⟩
 | some o =>
   unfold bnd at h
   simp only at h
   split at h
   · split at h <;> simp only [Option.some.injEq, reduceCtorEq] at h
     rename_i k n hn h0
     have := (opd_rep hF hn).int_inv
     exact .inr ⟨o, k, n.toNat, rfl, h.symm, by rw [this, Int.toNat_of_nonneg h0]⟩
   · simp at h
theorem run_bounds (b : Bool) {len cap : Nat} {lo hi mx : Option Nat} {lo' hi' mx' : Option Value}
   (hl : (lo' = none /\ lo = none) \/ ∃ k m, lo' = some (.int k (m : Nat)) /\ lo = some m) (hh : (hi' = none /\ hi = none) \/ ∃ k m, hi' = some (.int k (m : Nat)) /\ hi = some m) (hm : (mx' = none /\ mx = none) \/ ∃ k m, mx' = some (.int k (m : Nat)) /\ mx = some m)
   (h1 : lo.getD 0 <= hi.getD len) (h2 : hi.getD len <= mx.getD cap) (h3 : mx.getD cap <= cap) (h4 : mx ≠ none -> hi ≠ none) :
   (Instr.sliceBounds b len cap lo' hi' mx').run P w = .ok (lo.getD 0, hi.getD len, mx.getD cap) w := by
 have sb : ∀ (k : IntKind) (n y : Nat) (c : BoundsCode), n <= y -> (Instr.sliceBound (.int k (n : Nat)) y c).run P w = .ok n w := by
   intro k n y c h
   have e : (0 : Int) <= (n : Int) /\ (n : Int) <= (y : Int) := ⟨by omega, by omega⟩
   simp [Instr.sliceBound, asIntOf, e.2]
 rcases hl with ⟨rfl, rfl⟩ | ⟨kl, l, rfl, rfl⟩ <;> rcases hh with ⟨rfl, rfl⟩ | ⟨kh, h, rfl, rfl⟩ <;> rcases hm with ⟨rfl, rfl⟩ | ⟨km, m, rfl, rfl⟩ <;>
   simp_all [Instr.sliceBounds]
theorem op_slice_str {T : TypeId -> Option Ty} (hT : ∀ t y, T t = some y -> tyOf P t = some y) {t : TypeId} {y : Ty} (ht : T t = some y) (hk : y.k = .str) {s : List UInt8} {lo hi : Option Nat} {lo' hi' : Option Value}
   (hl : (lo' = none /\ lo = none) \/ ∃ k m, lo' = some (.int k (m : Nat)) /\ lo = some m) (hh : (hi' = none /\ hi = none) \/ ∃ k m, hi' = some (.int k (m : Nat)) /\ hi = some m)
   (h1 : lo.getD 0 <= hi.getD s.length) (h2 : hi.getD s.length <= s.length) :
   (Instr.sliceAt t (.string ⟨s.toArray⟩) lo' hi' none).run P w = .ok (.string ⟨((s.take (hi.getD s.length)).drop (lo.getD 0)).toArray⟩) w := by
 obtain ⟨i, d, hi0⟩ := get_wf hT ht
 have hd : d = .string := kOf_str (hk.symm.trans hi0.k)
 subst hd
 have hsz : (ByteArray.mk s.toArray).size = s.length := by simp [ByteArray.size]
 have hb := run_bounds (P := P) (w := w) false (len := s.length) (cap := s.length) hl hh (.inl ⟨rfl, rfl⟩) h1 h2 (Nat.le_refl _) (by simp)
 unfold Instr.sliceAt
 simp only [Sem.run_bind, run_underlying hi0.und, Result.andThen_ok]
 unfold Instr.slice
 simp only [Sem.run_bind, run_underlying hi0.und, Result.andThen_ok, Option.isSome_none, Bool.false_eq_true, if_false, Sem.run_pure, hsz, hb]
 rw [ByteArray.extract_mk, List.drop_take]
theorem op_slice_sl {T : TypeId -> Option Ty} (hT : ∀ t y, T t = some y -> tyOf P t = some y) {t : TypeId} {y : Ty} (ht : T t = some y) {e : TypeId} (hk : y.k = .slice e) {ei : TypeInfo} (he : P.info? e = some ei) {b : Option Addr} {len cap : Nat} {lo hi mx : Option Nat} {lo' hi' mx' : Option Value}
   (hl : (lo' = none /\ lo = none) \/ ∃ k m, lo' = some (.int k (m : Nat)) /\ lo = some m) (hh : (hi' = none /\ hi = none) \/ ∃ k m, hi' = some (.int k (m : Nat)) /\ hi = some m) (hm : (mx' = none /\ mx = none) \/ ∃ k m, mx' = some (.int k (m : Nat)) /\ mx = some m)
   (h1 : lo.getD 0 <= hi.getD len) (h2 : hi.getD len <= mx.getD cap) (h3 : mx.getD cap <= cap) (h4 : mx ≠ none -> hi ≠ none) :
   (Instr.sliceAt t (.slice b len cap) lo' hi' mx').run P w = .ok (.slice (if mx.getD cap = lo.getD 0 then b else b.map (·.add (lo.getD 0 * ei.size))) (hi.getD len - lo.getD 0) (mx.getD cap - lo.getD 0)) w := by
 obtain ⟨i, d, hi0⟩ := get_wf hT ht
 have hd : d = .slice e := kOf_slice (hk.symm.trans hi0.k)
 subst hd
 have hb := run_bounds (P := P) (w := w) true (len := len) (cap := cap) hl hh hm h1 h2 h3 h4
 unfold Instr.sliceAt
 simp only [Sem.run_bind, run_underlying hi0.und, Result.andThen_ok]
 unfold Instr.slice
 simp only [Sem.run_bind, run_underlying hi0.und, Result.andThen_ok, hb, run_sizeOf he, Sem.run_pure]
theorem add_plain' (b o n : Nat) : (⟨b, o, none⟩ : Addr).add n = ⟨b, o + n, none⟩ := by unfold Addr.add; split <;> simp_all
theorem add_spot {a : Addr} (h : a.spot = none) (n : Nat) : a.add n = ⟨a.block, a.off + n, none⟩ := by
 cases a; simp only at h; subst h; exact add_plain' _ _ _
theorem sl_cut {sz : Nat} {nl : Option Bool} {ti : Bool} {xs : List (List C)} {u : Value} (hu : RepV w A bl H (.c (.sl sz nl ti xs)) u) {size l h : Nat} (hsz : xs ≠ [] -> size = sz) (h1 : l <= h) (h2 : h <= xs.length) (m : Nat -> Nat) (hm : ∀ cap, xs.length <= cap -> h <= m cap /\ m cap <= cap) {ti' : Bool} (hti : ti' = true -> ∀ cap, xs.length <= cap -> (ti = true -> cap = xs.length) -> m cap = h) :
   ∃ b cap, u = .slice b xs.length cap /\ xs.length <= cap /\ RepV w A bl H (.c (.sl sz nl ti' ((xs.take h).drop l))) (.slice (if m cap = l then b else b.map (·.add (l * size))) (h - l) (m cap - l)) := by
 rcases hu.sl_inv with ⟨rfl, rfl, hnl⟩ | ⟨a, cap, vs, rfl, g1, g2, g3, g4, g5, g6, g7⟩
 · refine ⟨none, 0, rfl, Nat.le_refl _, ?_⟩
   simp only [List.length_nil, Nat.le_zero_eq] at h2
   subst h2
   obtain rfl : l = 0 := by omega
   have := hm 0 (by simp)
   have e : m 0 = 0 := by omega
   simp only [e, if_true, Nat.sub_self, List.take_nil, List.drop_nil]
   exact .c _ _ (.slnil _ _ _ hnl)
 · refine ⟨some a, cap, rfl, g4, ?_⟩
   obtain ⟨m1, m2⟩ := hm cap g4
   have hlen : ((xs.take h).drop l).length = h - l := by simp; omega
   have ex : ∃ a' : Addr, (if m cap = l then some a else (some a).map (·.add (l * size))) = some a' /\ (m cap - l ≠ 0 -> a'.spot = none) /\ (l < h -> a'.block = a.block /\ a'.off = a.off + l * size) := by
     by_cases hc : m cap = l
     · exact ⟨a, by simp [hc], fun h => by omega, fun hlt => by omega⟩
     · have g1 := g1 (by omega)
       exact ⟨a.add (l * size), by simp [hc], fun _ => by rw [add_spot g1], fun _ => by rw [add_spot g1]; exact ⟨rfl, rfl⟩⟩
   obtain ⟨a', e1, e2, e3⟩ := ex
   rw [e1, <- hlen]
   have at_ : ∀ (i : Nat) (cs : List C), ((xs.take h).drop l)[i]? = some cs -> xs[l + i]? = some cs /\ l < h := by
     intro i cs hi
     have hi' := hi
     rw [List.getElem?_drop, List.getElem?_take] at hi'
     split at hi' <;> simp_all
     omega
   refine .c _ _ (.sl sz nl ti' _ a' (m cap - l) (fun i j => vs (l + i) j) e2 g2 ?_ (by rw [hlen]; omega) ?_ ?_ ?_)
   · intro ht
     have := hti ht cap g4 g3
     rw [hlen]; omega
   · intro cs hcs
     exact g5 cs (List.mem_of_mem_take (List.mem_of_mem_drop hcs))
   · intro i j cs x hi hj
     obtain ⟨hi', hlt⟩ := at_ i cs hi
     obtain ⟨k1, k2⟩ := g6 (l + i) j cs x hi' hj
     obtain ⟨b1, b2⟩ := e3 hlt
     have hs : size = sz := hsz (by intro h0; rw [h0] at hi'; simp at hi')
     refine ⟨by rw [b1]; exact k1, ?_⟩
     rw [b1, b2, <- k2, hs]
     congr 2
     rw [Nat.add_mul]; omega
   · intro i j cs x hi hj
     exact g7 (l + i) j cs x (at_ i cs hi).1 hj
theorem buf_cut {i ep off len : Nat} {u : Value} (hu : RepV w A bl H (.buf i ep off len) u) {z : Nat} {xs : List (List C)} (hi : H[i]? = some (.mem z ep xs)) {l h : Nat} (h1 : l <= h) (h2 : h <= len) (m : Nat -> Nat) (hm : ∀ cap, len <= cap -> h <= m cap /\ m cap <= cap) :
   ∃ b cap, u = .slice b len cap /\ len <= cap /\ RepV w A bl H (.buf i ep (off + l) (h - l)) (.slice (if m cap = l then b else b.map (·.add (l * z))) (h - l) (m cap - l)) := by
 obtain ⟨b, l0, cap, rfl, g1, g2, g3⟩ := hu.buf_inv
 obtain ⟨k1, rfl, ⟨k3, k5, k6⟩, k4⟩ := g3 z xs hi
 obtain ⟨m1, m2⟩ := hm cap k3
 refine ⟨b, cap, rfl, k3, .buf i ep (off + l) (h - l) _ _ _ g1 g2 ?_⟩
 intro z' xs' hi'
 rw [hi] at hi'
 simp only [Option.some.injEq, O.mem.injEq, true_and] at hi'
 obtain ⟨rfl, rfl⟩ := hi'
 refine ⟨by omega, rfl, ⟨by omega, fun hcz a0 ha0 => ?_, fun hn => ?_⟩, fun hc => ?_⟩
 · have k5 := k5 (by omega)
   split at ha0
   · exact k5 a0 ha0
   · simp only [Option.map_eq_some_iff] at ha0
     obtain ⟨a1, h1, rfl⟩ := ha0
     rw [add_spot (k5 a1 h1)]
 · have hb0 : b = none := by
     split at hn
     · exact hn
     · cases b <;> simp at hn; rfl
   have := k6 hb0
   omega
 obtain ⟨b', d, n, q1, q2, q3, q4⟩ := k4 (by omega)
 refine ⟨b', d, n, q1, ?_, q3, ?_⟩
 · rw [if_neg (by omega), q2]
   simp only [Option.map_some, add_plain', Option.some.injEq, Addr.mk.injEq, and_true, true_and]
   rw [Nat.add_mul]; omega
 · have : (off + l + (m cap - l)) * z <= (off + cap) * z := Nat.mul_le_mul_right _ (by omega)
   omega
theorem ptr_of_buf {i ep off len : Nat} {u : Value} (hu : RepV w A bl H (.buf i ep off len) u) {z : Nat} {xs : List (List C)} (hi : H[i]? = some (.mem z ep xs)) {n : Nat} (hn : n < len) :
   ∃ a cap, u = .slice (some a) len cap /\ RepV w A bl H (.ptr i ep (off + n) 0) (.pointer (some (a.add (n * z)))) := by
 obtain ⟨b, l0, cap, rfl, g1, g2, g3⟩ := hu.buf_inv
 obtain ⟨k1, rfl, ⟨k3, k5, k6⟩, k4⟩ := g3 z xs hi
 obtain ⟨b', d, m, q1, rfl, q3, q4⟩ := k4 (by omega)
 refine ⟨_, cap, rfl, ?_⟩
 rw [add_plain']
 refine .ptr i ep (off + n) 0 _ g1 g2 (fun cs hc => by rw [hi] at hc; simp at hc) fun z' xs' hi' => ?_
 rw [hi] at hi'
 simp only [Option.some.injEq, O.mem.injEq, true_and] at hi'
 obtain ⟨rfl, rfl⟩ := hi'
 refine ⟨b', d, q1, ?_⟩
 simp only [Addr.mk.injEq, and_true, true_and]
 rw [Nat.add_mul]; omega
theorem run_fieldPlace {l : Array Field} {g : Field} {gi : TypeInfo} (h4 : P.info? g.type = some gi) (h0 : sizeAt P g.type ≠ 0) (a : Addr) : (fieldPlace a g).run P w = .ok (a.add g.offset) w := by
 unfold fieldPlace
 rw [Sem.run_bind, run_sizeAt h4]
 simp [h0]
theorem op_fieldAddr {T : TypeId -> Option Ty} (hT : ∀ t y, T t = some y -> tyOf P t = some y) {s : TypeId} {y : Ty} (hs : T s = some y) {fs : List (Nat × Nat × Bool)} (hk : y.k = .struct fs) {f off size : Nat} {ag : Bool} (hf : fs[f]? = some (off, size, ag)) (h0 : size ≠ 0) (a : Addr) :
   (Instr.fieldAt s (.pointer (some a)) f).run P w = .ok (.pointer (some (a.add off))) w := by
 obtain ⟨i, d, hi⟩ := get_wf hT hs
 obtain ⟨la, g, gi, gd, rfl, hg, h1, h2, h3, h4, h5⟩ := field_of hi hk hf
 unfold Instr.fieldAt
 simp only [Sem.run_bind, run_underlying hi.und, Result.andThen_ok, hg, Instr.sureAddr, Sem.run_pure, run_fieldPlace (l := la) h4 (by rw [h2]; exact h0), h1]
theorem op_indexAddr_sl {T : TypeId -> Option Ty} (hT : ∀ t y, T t = some y -> tyOf P t = some y) {t : TypeId} {y : Ty} (ht : T t = some y) {e : TypeId} (hk : y.k = .slice e) {ei : TypeInfo} (he : P.info? e = some ei) {a : Addr} {len cap n : Nat} {k : IntKind} (hn : n < len) :
   (Instr.indexAt t (.slice (some a) len cap) (.int k (n : Int))).run P w = .ok (.pointer (some (a.add (n * ei.size)))) w := by
 obtain ⟨i, d, hi0⟩ := get_wf hT ht
 have hd : d = .slice e := kOf_slice (hk.symm.trans hi0.k)
 subst hd
 unfold Instr.indexAt
 simp [Sem.run_bind, run_underlying hi0.und, asIntOf, run_sizeOf he, hn]
theorem op_indexAddr_arr {T : TypeId -> Option Ty} (hT : ∀ t y, T t = some y -> tyOf P t = some y) {t : TypeId} {y : Ty} (ht : T t = some y) {m : Nat} {e : TypeId} (hk : y.k = .array m e) {ei : TypeInfo} (he : P.info? e = some ei) {a : Addr} {n : Nat} {k : IntKind} (hn : n < m) :
   (Instr.indexAt t (.pointer (some a)) (.int k (n : Int))).run P w = .ok (.pointer (some (a.add (n * ei.size)))) w := by
 obtain ⟨i, d, hi0⟩ := get_wf hT ht
 have hd : d = .array m e := kOf_array (hk.symm.trans hi0.k)
 subst hd
 unfold Instr.indexAt
 simp [Sem.run_bind, run_underlying hi0.und, asIntOf, Instr.sureAddr, run_sizeOf he, hn]
theorem fp_of_sl {sz : Nat} {nl : Option Bool} {ti : Bool} {xs : List (List C)} {u : Value} (hu : RepV w A bl H (.c (.sl sz nl ti xs)) u) {n : Nat} {cs : List C} (hn : xs[n]? = some cs) :
   ∃ a cap, u = .slice (some a) xs.length cap /\ RepV w A bl H (.fp cs) (.pointer (some (a.add (n * sz)))) := by
 rcases hu.sl_inv with ⟨rfl, rfl, hnl⟩ | ⟨a, cap, vs, rfl, g1, g2, g3, g4, g5, g6, g7⟩
 · simp at hn
 · refine ⟨a, cap, rfl, ?_⟩
   have hlt := (List.getElem?_eq_some_iff.1 hn).1
   rw [add_spot (g1 (by omega))]
   refine .fp cs _ rfl fun j x hj => ?_
   obtain ⟨k1, k2⟩ := g6 n j cs x hn hj
   exact ⟨k1, _, k2, g7 n j cs x hn hj⟩
theorem op_index_str {T : TypeId -> Option Ty} (hT : ∀ t y, T t = some y -> tyOf P t = some y) {t : TypeId} {y : Ty} (ht : T t = some y) (hk : y.k = .str) {s : List UInt8} {n : Nat} {k : IntKind} {b : UInt8} (hn : s[n]? = some b) :
   (Instr.index t (.string ⟨s.toArray⟩) (.int k (n : Int))).run P w = .ok (.int .u8 b.toNat) w := by
 obtain ⟨i, d, hi0⟩ := get_wf hT ht
 have hd : d = .string := kOf_str (hk.symm.trans hi0.k)
 subst hd
 obtain ⟨hlt, rfl⟩ := List.getElem?_eq_some_iff.1 hn
 have hsz : (ByteArray.mk s.toArray).size = s.length := by simp [ByteArray.size]
 unfold Instr.index
 have hg : (ByteArray.mk s.toArray)[n]? = some s[n] := by
   rw [getElem?_pos _ _ (by rw [hsz]; exact hlt)]; rfl
 simp [Sem.run_bind, run_underlying hi0.und, asIntOf, hg]
theorem aggAt_k {t : TypeId} {y : Ty} {i : TypeInfo} {d : TypeDesc} (hi : TyIs P t y i d) : aggAt P t = y.k.agg := by
 rw [hi.k, kOf_agg]; unfold aggAt; rw [hi.und]; cases d <;> rfl
theorem run_loadVar {t : TypeId} {y : Ty} {i : TypeInfo} {d : TypeDesc} (hi : TyIs P t y i d) {a : Addr} (ha : a.spot = none) {us : List Value} (hl : us.length = y.size) (hu : ∀ (j : Nat) (u : Value), us[j]? = some u -> w.cell? ⟨a.block, a.off + j, none⟩ = some u) (h1 : y.k.agg = false -> y.size = 1) :
   (loadVar t a).run P w = .ok (valOf P t us) w := by
 unfold loadVar
 rw [Sem.run_bind, run_isAgg hi.und, <- hi.k]
 simp only [Result.andThen_ok]
 unfold valOf
 rw [aggAt_k hi]
 cases hk : y.k.agg with
 | true =>
   simp only [if_true, Sem.run_bind, run_sizeOf hi.info, Result.andThen_ok]
   have := run_loadCells_list (P := P) w a us (fun j v hv => by rw [add_spot ha]; exact hu j v hv)
   rw [hl, hi.size] at this
   rw [this]
   rfl
 | false =>
   have h2 := h1 hk
   obtain ⟨u, rfl⟩ : ∃ u, us = [u] := by
     match us, hl.trans h2 with
     | [u], _ => exact ⟨u, rfl⟩
   have h0 := hu 0 u rfl
   have e : (⟨a.block, a.off + 0, none⟩ : Addr) = a := by cases a; simp_all
   rw [e] at h0
   simp [run_load, h0]
theorem list_of {α : Type} {n : Nat} {Q : Nat -> α -> Prop} (h : ∀ j, j < n -> ∃ u, Q j u) : ∃ us : List α, us.length = n /\ ∀ (j : Nat) (u : α), us[j]? = some u -> Q j u := by
 induction n with
 | zero => exact ⟨[], rfl, fun j u hj => by simp at hj⟩
 | succ n ih =>
   obtain ⟨us, hl, hu⟩ := ih (fun j hj => h j (by omega))
   obtain ⟨u, hq⟩ := h n (by omega)
   refine ⟨us ++ [u], by simp [hl], fun j v hj => ?_⟩
   rcases Nat.lt_or_ge j n with hlt | hge
   · rw [List.getElem?_append_left (by omega)] at hj
     exact hu j v hj
   · have : j = n := by
       have := (List.getElem?_eq_some_iff.1 hj).1
       simp at this; omega
     subst this
     rw [List.getElem?_append_right (by omega), hl] at hj
     simp at hj
     subst hj
     exact hq
theorem ofCells_one {ag : Bool} {l : List V} {v : V} (h : ofCells ag l = some v) : ag = false -> l.length = 1 := by
 unfold ofCells at h
 intro ha
 subst ha
 simp only [Bool.false_eq_true, if_false] at h
 split at h <;> simp_all
theorem cell_of_heap {b o : Nat} {arr : Array Value} {t : TypeId} {f : Nat × Nat} (h : w.heap[b]? = some (.cells arr t f)) : w.cell? ⟨b, o, none⟩ = arr[o]? := by
 simp [World.cell?, h]
theorem flat_len {z : Nat} : ∀ {xs : List (List C)}, (∀ cs ∈ xs, cs.length = z) -> xs.flatten.length = xs.length * z
 | [], _ => by simp
 | x :: r, h => by
   rw [List.flatten_cons, List.length_append, flat_len (fun cs hc => h cs (by simp [hc])), h x (by simp), List.length_cons, Nat.add_mul, Nat.one_mul, Nat.add_comm]
theorem flat_get {z : Nat} : ∀ {xs : List (List C)} {j : Nat} {x : C}, (∀ cs ∈ xs, cs.length = z) -> xs.flatten[j]? = some x -> ∃ cs, xs[j / z]? = some cs /\ cs[j % z]? = some x
 | [], j, x, _, h => by simp at h
 | y :: r, j, x, hl, h => by
   have hy := hl y (by simp)
   rw [List.flatten_cons] at h
   rcases Nat.lt_or_ge j z with hlt | hge
   · rw [List.getElem?_append_left (by omega)] at h
     exact ⟨y, by rw [Nat.div_eq_of_lt hlt]; rfl, by rw [Nat.mod_eq_of_lt hlt]; exact h⟩
   · rw [List.getElem?_append_right (by omega), hy] at h
     obtain ⟨cs, h1, h2⟩ := flat_get (fun cs hc => hl cs (by simp [hc])) h
     rcases Nat.eq_zero_or_pos z with rfl | hz
     · have := flat_len (fun cs hc => hl cs (by simp [hc]) : ∀ cs ∈ r, cs.length = 0)
       have h3 := (List.getElem?_eq_some_iff.1 h).1
       omega
     · refine ⟨cs, ?_, by rw [Nat.mod_eq_sub_mod hge]; exact h2⟩
       rw [Nat.div_eq_sub_div hz hge]; exact h1
theorem loadV_run {T : TypeId -> Option Ty} (hT : ∀ t y, T t = some y -> tyOf P t = some y) (hH : RepH w A bl H) {t : TypeId} {y : Ty} (ht : T t = some y) {x v : V} (h : loadV H y x = some v) {u : Value} (hu : RepV w A bl H x u) :
   ∃ r, (Instr.loadAt t u).run P w = .ok r w /\ RepV w A bl H v r := by
 obtain ⟨i, d, hi⟩ := get_wf hT ht
 -- the common end
 have fin : ∀ {a : Addr} {l : List V}, a.spot = none -> l.length = y.size -> ofCells y.k.agg l = some v -> (∀ (j : Nat) (z : V), l[j]? = some z -> ∃ u, w.cell? ⟨a.block, a.off + j, none⟩ = some u /\ RepV w A bl H z u) →
     ∃ r, (Instr.loadAt t (.pointer (some a))).run P w = .ok r w /\ RepV w A bl H v r := by
   intro a l hs hl hv hc
   obtain ⟨us, hus, hq⟩ := list_of (n := y.size) (Q := fun j u => w.cell? ⟨a.block, a.off + j, none⟩ = some u /\ ∀ z, l[j]? = some z -> RepV w A bl H z u) (fun j hj => by
     obtain ⟨u, h1, h2⟩ := hc j l[j] (by simp [hl, hj])
     exact ⟨u, h1, fun z hz => by simp [hl, hj] at hz; subst hz; exact h2⟩)
   have hr := run_loadVar (P := P) (w := w) hi hs hus (fun j u hj => (hq j u hj).1) (fun hk => by rw [<- hl]; exact ofCells_one hv hk)
   refine ⟨_, ?_, ofCells_rep (P := P) (t := t) (us := us) hv ⟨by omega, fun j z u hj hu => (hq j u hu).2 z hj⟩ (aggAt_k hi)⟩
   unfold Instr.loadAt
   simp only [Instr.sureAddr, Sem.run_bind, Sem.run_pure, Result.andThen_ok, hr]
 unfold loadV at h
 split at h
 · rename_i cs
   split at h
   case h_2 => simp at h
   rename_i l hl
   obtain ⟨a, rfl, hs, hc⟩ := hu.fp_inv
   obtain ⟨p1, p2, p3⟩ := part_len hl
   refine fin (a := a) hs (by simpa using p3) h fun j z hz => ?_
   simp only [List.getElem?_map, Option.map_eq_some_iff] at hz
   obtain ⟨x, hx, rfl⟩ := hz
   subst p2
   simp only [List.drop_zero, List.getElem?_take] at hx
   split at hx <;> (try simp at hx)
   obtain ⟨_, u, h1, h2⟩ := hc j x hx
   exact ⟨u, h1, .c _ _ h2⟩
 · rename_i i0 ep el o
   obtain ⟨a, rfl, g1, g2, g3, g4⟩ := hu.ptr_inv
   split at h
   · rename_i cs hcs
     split at h
     case isFalse => simp at h
     rename_i hel
     split at h
     case h_2 => simp at h
     rename_i l hl
     obtain ⟨p1, p2, p3⟩ := part_len hl
     obtain ⟨b, hb, ha⟩ := g3 cs hcs
     obtain rfl := ha hel
     obtain ⟨b', arr, t', k1, k2, k3, k4⟩ := hH.obj _ _ hcs
     rw [hb] at k1
     simp only [Option.some.injEq, Prod.mk.injEq, and_true] at k1
     subst k1
     refine fin (a := ⟨b, o, none⟩) rfl p3 h fun j z hz => ?_
     subst p2
     simp only [List.getElem?_take, List.getElem?_drop] at hz
     split at hz <;> (try simp at hz)
     have hlt := (List.getElem?_eq_some_iff.1 hz).1
     refine ⟨arr[o + j], ?_, k4 _ _ _ hz (by simp)⟩
     rw [cell_of_heap k2]; simp
   · rename_i z e xs hmem
     split at h
     case isFalse => simp at h
     rename_i he
     subst he
     obtain ⟨b, d0, hb, rfl⟩ := g4 z xs hmem
     obtain ⟨k1, k2, k3⟩ := hH.obj _ _ hmem
     obtain ⟨arr, t', q1, q2, q3⟩ := k3 b d0 hb
     have elm : loadE y xs el o = some v -> ∃ r, (Instr.loadAt t (.pointer (some ⟨b, d0 + el * z + o, none⟩))).run P w = .ok r w /\ RepV w A bl H v r := by
       intro h
       unfold loadE at h
       split at h
       case h_2 => simp at h
       rename_i cs hcs
       split at h
       case h_2 => simp at h
       rename_i l hl
       obtain ⟨p1, p2, p3⟩ := part_len hl
       refine fin (a := ⟨b, d0 + el * z + o, none⟩) rfl (by simpa using p3) h fun j zz hz => ?_
       simp only [List.getElem?_map, Option.map_eq_some_iff] at hz
       obtain ⟨x, hx, rfl⟩ := hz
       subst p2
       simp only [List.getElem?_take, List.getElem?_drop] at hx
       split at hx <;> (try simp at hx)
       obtain ⟨u, hu1, hu2⟩ := q3 el (o + j) cs x hcs hx
       refine ⟨u, ?_, .c _ _ hu2⟩
       rw [cell_of_heap q1, <- hu1]
       congr 1
       show d0 + el * z + o + j = _
       omega
     unfold loadM at h
     split at h
     · rename_i n e' hk
       split at h
       · rename_i hc
         obtain ⟨rfl, rfl, c3, c4⟩ := hc
         simp only [Option.some.injEq] at h
         have hfl := flat_len k1
         refine fin (a := ⟨b, d0 + 0 * z + 0, none⟩) rfl (l := xs.flatten.map .c) (by rw [List.length_map, hfl, c3, c4]) (by rw [<- h, hk]; rfl) fun j zz hz => ?_
         simp only [List.getElem?_map, Option.map_eq_some_iff] at hz
         obtain ⟨x, hx, rfl⟩ := hz
         obtain ⟨cs, f1, f2⟩ := flat_get k1 hx
         obtain ⟨u, hu1, hu2⟩ := q3 _ _ cs x f1 f2
         refine ⟨u, ?_, .c _ _ hu2⟩
         rw [cell_of_heap q1, <- hu1]
         congr 1
         show d0 + 0 * z + 0 + j = _
         have := Nat.div_add_mod' j z
         omega
       · exact elm h
     · exact elm h
   · simp at h
 · simp at h
theorem le_set (hH : RepH w A bl H) {i0 : Nat} {o o' : O} (hi : H[i0]? = some o) (hlive : o.live = true) {b0 d0 : Nat} (hb0 : bl i0 = some (b0, d0)) {arr arr' : Array Value} {t : TypeId} (hw : w.heap[b0]? = some (.cells arr t (0, 0))) (hs : arr'.size = arr.size)
   (hw' : w'.heap[b0]? = some (.cells arr' t (0, 0))) (hk : ∀ b, b ≠ b0 -> w'.heap[b]? = w.heap[b]?)
   (hm : ∀ z e xs', o' = .mem z e xs' -> ∃ e0 xs, o = .mem z e0 xs /\ e0 <= e /\ (e0 = e -> xs.length = xs'.length)) (hb : ∀ cs', o' = .box cs' -> ∃ cs, o = .box cs) (hy : ∀ r s, o' ≠ .yo r s := by intro r s h; cases h) :
   Le w A bl H w' A bl (H.set i0 o') := by
 have hilt : i0 < H.length := (List.getElem?_eq_some_iff.1 hi).1
 have hal : alive H i0 := ⟨o, hi, hlive⟩
 have hA : ∀ b, A b -> b ≠ b0 := fun b hb e => by subst e; exact (hH.lt _ _ _ hal hb0).2 hb
 refine ⟨fun b hb => hk b (hA b hb), fun b hb => hb, by simp, fun i z e xs' hlt h => ?_, fun i cs' hlt h => ?_, fun i r s hlt h => ?_, rfl, fun i z e xs xs' b d n h0 _ hb hr => ?_⟩
 · rcases Nat.decEq i0 i with hne | rfl
   · rw [List.getElem?_set_ne hne] at h
     exact ⟨e, xs', h, Nat.le_refl _, fun _ => ⟨rfl, rfl⟩⟩
   · rw [List.getElem?_set_self hilt] at h
     simp only [Option.some.injEq] at h
     obtain ⟨e0, xs, rfl, h1, h2⟩ := hm z e xs' h
     exact ⟨e0, xs, hi, h1, fun he => ⟨h2 he, rfl⟩⟩
 · rcases Nat.decEq i0 i with hne | rfl
   · rw [List.getElem?_set_ne hne] at h
     exact ⟨cs', h, rfl⟩
   · rw [List.getElem?_set_self hilt] at h
     simp only [Option.some.injEq] at h
     obtain ⟨cs, rfl⟩ := hb cs' h
     exact ⟨cs, hi, rfl⟩
 · rcases Nat.decEq i0 i with hne | rfl
   · rw [List.getElem?_set_ne hne] at h
     exact ⟨r, s, h, rfl⟩
   · rw [List.getElem?_set_self hilt] at h
     simp only [Option.some.injEq] at h
     exact absurd h (hy r s)
 · rcases Nat.decEq b b0 with hne | rfl
   · rw [rowOf_keep (hk b hne)]; exact hr
   · simp only [rowOf, hw, hw', hs] at hr ⊢
     exact hr
theorem rep_set (hH : RepH w A bl H) {i0 : Nat} {o o' : O} (hi : H[i0]? = some o) (hlive : o.live = true) {b0 d0 : Nat} (hb0 : bl i0 = some (b0, d0)) (hl : Le w A bl H w' A bl (H.set i0 o')) (hk : ∀ b, b ≠ b0 -> w'.heap[b]? = w.heap[b]?) (hsz : w'.heap.size = w.heap.size)
   (ho : RepO w' A bl (H.set i0 o') i0 o') (hos : w'.os = w.os /\ w'.tape = w.tape /\ w'.output = w.output := by exact ⟨rfl, rfl, rfl⟩) : RepH w' A bl (H.set i0 o') := by
 have hilt : i0 < H.length := (List.getElem?_eq_some_iff.1 hi).1
 have hal : alive H i0 := ⟨o, hi, hlive⟩
 have old : ∀ {i}, alive (H.set i0 o') i -> alive H i := by
   intro i ha
   rcases Nat.decEq i0 i with hne | rfl
   · obtain ⟨o2, h1, h2⟩ := ha
     rw [List.getElem?_set_ne hne] at h1
     exact ⟨o2, h1, h2⟩
   · exact hal
 have hX : ∀ c, bl.X c -> c ≠ b0 := fun c hc e => by subst e; exact hH.xinj _ _ _ hal hb0 hc
 have hard : Ard w w' A bl bl := ⟨rfl, fun b hb => by rw [hsz]; exact hH.alt b hb, fun c hc => (hH.xlt c hc).2, fun c hc => hk c (hX c hc), by omega, hos.1, hos.2.1, hos.2.2⟩
 refine ⟨fun i o2 h => ?_, fun i j b d d' hij ha ha' => hH.inj i j b d d' hij (old ha) (old ha'), fun i b d ha hb => ?_, hard.alt, fun b hb => by rw [hsz]; exact hH.xlt b hb, fun i b d ha => hH.xinj i b d (old ha), hH.base.mono hl.A hl.C⟩
 · rcases Nat.decEq i0 i with hne | rfl
   · rw [List.getElem?_set_ne hne] at h
     cases hlv : o2.live with
     | false => cases o2 <;> simp [O.live] at hlv; trivial
     | true =>
       refine (hH.obj i o2 h).mono hl hard rfl (fun b d hb => hk b fun e => ?_) (fun b d hb => (hH.lt i b d ⟨o2, h, hlv⟩ hb).2)
       subst e
       exact hH.inj i0 i _ _ _ hne hal ⟨o2, h, hlv⟩ hb0 hb
   · rw [List.getElem?_set_self hilt] at h
     simp only [Option.some.injEq] at h
     subst h; exact ho
 · rw [hsz]; exact hH.lt i b d (old ha) hb
theorem liv_set {i0 : Nat} {o o' : O} (hi : H[i0]? = some o) (hlive : o.live = true) {b : Nat} (h : Liv bl (H.set i0 o') b) : Liv bl H b := by
 rcases h with ⟨i, d, ⟨o2, h1, h2⟩, hb⟩ | h
 · rcases Nat.decEq i0 i with hne | rfl
   · rw [List.getElem?_set_ne hne] at h1
     exact .inl ⟨i, d, ⟨o2, h1, h2⟩, hb⟩
   · exact .inl ⟨i0, d, ⟨o, hi, hlive⟩, hb⟩
 · exact .inr h
theorem splice_len {α : Type} {l ys : List α} {o : Nat} (h : o + ys.length <= l.length) : (splice l o ys).length = l.length := by
 simp [splice]; omega
theorem splice_get {α : Type} {l ys : List α} {o j : Nat} (h : o + ys.length <= l.length) : (splice l o ys)[j]? = if o <= j /\ j < o + ys.length then ys[j - o]? else l[j]? := by
 unfold splice
 by_cases h1 : j < o
 · rw [if_neg (by omega), List.append_assoc, List.getElem?_append_left (by simp; omega), List.getElem?_take, if_pos h1]
 · by_cases h2 : j < o + ys.length
   · rw [if_pos (by omega), List.append_assoc, List.getElem?_append_right (by simp; omega), List.getElem?_append_left (by simp; omega)]
     congr 1; simp; omega
   · rw [if_neg (by omega), List.append_assoc, List.getElem?_append_right (by simp; omega), List.getElem?_append_right (by simp; omega), List.getElem?_drop]
     congr 1; simp; omega
theorem run_storeAt {t : TypeId} {y : Ty} {i : TypeInfo} {d : TypeDesc} (hi : TyIs P t y i d) {b o : Nat} {arr : Array Value} {tt : TypeId} (hw : w.heap[b]? = some (.cells arr tt (0, 0))) {x : Value} (hx : x.cells.size = y.size) (hfit : o + y.size <= arr.size) (h1 : ∀ u ∈ x.cells, u.oneCell' = true) :
   (Instr.storeAt t (.pointer (some ⟨b, o, none⟩)) x).run P w = .ok () (w.setRow b (splice arr.toList o x.cells.toList).toArray) := by
 have hs := run_storeCells_at (P := P) b o tt x.cells.toList 0 arr w hw (by simp; omega) (fun v hv => h1 v (by simpa using hv))
 unfold Instr.storeAt storeVar
 simp only [Instr.sureAddr, Sem.run_bind, Sem.run_pure, Result.andThen_ok, run_sizeOf hi.info, <- hi.size]
 rw [if_neg (by simp [hx])]
 simp only [Nat.add_zero] at hs
 exact hs
theorem storeV_run {T : TypeId -> Option Ty} (hT : ∀ t y, T t = some y -> tyOf P t = some y) (hH : RepH w A bl H) {t : TypeId} {y : Ty} (ht : T t = some y) {x v : V} {H' : Hp} (h : storeV H y x v = some H') {u r : Value} (hu : RepV w A bl H x u) (hr : RepV w A bl H v r) :
   ∃ w', (Instr.storeAt t u r).run P w = .ok () w' /\ RepH w' A bl H' /\ Le w A bl H w' A bl H' /\ Evo w A (Liv bl H) w' A (Liv bl H') := by
 obtain ⟨i, d, hi⟩ := get_wf hT ht
 unfold storeV at h
 split at h
 case h_2 => simp at h
 rename_i i0 ep el o
 obtain ⟨a, rfl, g1, g2, g3, g4⟩ := hu.ptr_inv
 split at h
 · rename_i cs hcs
   split at h
   case isFalse => simp at h
   rename_i hc
   obtain ⟨c1, c2, c3, c4⟩ := hc
   simp only [Option.some.injEq] at h
   subst h
   obtain ⟨b, hb, ha⟩ := g3 cs hcs
   obtain rfl := ha c1
   obtain ⟨b', arr, t', k1, k2, k3, k4⟩ := hH.obj _ _ hcs
   rw [hb] at k1
   simp only [Option.some.injEq, Prod.mk.injEq, and_true] at k1
   subst k1
   obtain ⟨r1, r2, r3⟩ := hr.cells c4
   have hrun := run_storeAt (P := P) (w := w) (o := o) hi k2 (x := r) (by omega) (by omega) r3
   have hsl : (splice cs o v.cells).length = cs.length := splice_len (by omega)
   have hsa : (splice arr.toList o r.cells.toList).length = arr.size := by rw [splice_len]; simp; simp; omega
   have hw' := setRow_heap w b arr (splice arr.toList o r.cells.toList).toArray t' (0, 0) k2
   have hk : ∀ b', b' ≠ b -> (w.setRow b (splice arr.toList o r.cells.toList).toArray).heap[b']? = w.heap[b']? := fun b' hne => Go.setRow_other w b b' _ hne
   have hle := le_set (o' := .box (splice cs o v.cells)) hH hcs rfl hb k2 (arr' := (splice arr.toList o r.cells.toList).toArray) (by simp [hsa]) hw' hk (fun z e xs' he => by cases he) (fun cs' _ => ⟨cs, rfl⟩)
   refine ⟨_, hrun, rep_set hH hcs rfl hb hle hk (by simp) ?_, hle, ?_⟩
   · refine ⟨b, _, t', hb, hw', by simp [hsa, hsl, k3], fun j x u hj hu => ?_⟩
     rw [splice_get (by omega)] at hj
     simp only [List.getElem?_toArray] at hu
     rw [splice_get (by simp; omega)] at hu
     simp only [Array.length_toList, r1] at hu
     split at hj
     · rename_i hin
       rw [if_pos hin] at hu
       exact (r2 _ _ _ hj (by simpa using hu)).mono hle
     · rename_i hin
       rw [if_neg hin] at hu
       exact (k4 j x u hj (by simpa using hu)).mono hle
   · exact ⟨rfl, rfl, rfl, by simp, fun b' _ hn => hk b' fun e => hn (e ▸ .inl ⟨i0, 0, ⟨_, hcs, rfl⟩, hb⟩), fun b' hb' => .inl (liv_set hcs rfl hb'), fun b' hb' => .inl hb'⟩
 · rename_i z e xs hmem
   split at h
   case isFalse => simp at h
   rename_i he
   subst he
   split at h
   case h_2 => simp at h
   rename_i cs l hcs hl
   split at h
   case isFalse => simp at h
   rename_i hc
   obtain ⟨c1, c2⟩ := hc
   simp only [Option.some.injEq] at h
   subst h
   obtain ⟨b, d0, hb, rfl⟩ := g4 z xs hmem
   obtain ⟨k1, k2, k3⟩ := hH.obj _ _ hmem
   obtain ⟨arr, t', q1, q2, q3⟩ := k3 b d0 hb
   have hz : cs.length = z := k1 cs (List.mem_of_getElem? hcs)
   have hlt := (List.getElem?_eq_some_iff.1 hcs).1
   have hpl : ∀ {l : List V} {m : List C}, pureL l = some m -> l = m.map .c := by
     intro l
     induction l with
     | nil => intro m h; simp [pureL] at h; subst h; rfl
     | cons x l ih =>
       intro m h
       cases x <;> simp only [pureL, reduceCtorEq] at h
       split at h <;> simp only [Option.some.injEq, reduceCtorEq] at h
       subst h
       rw [ih ‹_›]; rfl
   have hvc := hpl hl
   have hall : v.cells.all V.one = true := by rw [hvc]; simp [V.one]
   obtain ⟨r1, r2, r3⟩ := hr.cells hall
   have hrl : r.cells.size = l.length := by rw [r1, hvc]; simp
   have hmul : el * z + z <= xs.length * z := by
     have : (el + 1) * z <= xs.length * z := Nat.mul_le_mul_right _ hlt
     rw [Nat.add_mul] at this; omega
   have hrun := run_storeAt (P := P) (w := w) (o := d0 + el * z + o) hi q1 (x := r) (by omega) (by omega) r3
   have hsa : (splice arr.toList (d0 + el * z + o) r.cells.toList).length = arr.size := by rw [splice_len]; simp; simp; omega
   have hw' := setRow_heap w b arr (splice arr.toList (d0 + el * z + o) r.cells.toList).toArray t' (0, 0) q1
   have hk : ∀ b', b' ≠ b -> (w.setRow b (splice arr.toList (d0 + el * z + o) r.cells.toList).toArray).heap[b']? = w.heap[b']? := fun b' hne => Go.setRow_other w b b' _ hne
   have hle := le_set (o' := .mem z e (xs.set el (splice cs o l))) hH hmem rfl hb q1 (arr' := (splice arr.toList (d0 + el * z + o) r.cells.toList).toArray) (by simp [hsa]) hw' hk (fun z' e' xs' h' => by
     simp only [O.mem.injEq] at h'
     obtain ⟨rfl, rfl, rfl⟩ := h'
     exact ⟨e, xs, rfl, Nat.le_refl _, fun _ => by simp⟩) (fun cs' h' => by cases h')
   refine ⟨_, hrun, rep_set hH hmem rfl hb hle hk (by simp) ?_, hle, ?_⟩
   · refine ⟨fun c hc => ?_, fun hn => (by rw [hb] at hn; cases hn), fun b1 d1 hb1 => ?_⟩
     · rcases List.mem_or_eq_of_mem_set hc with h | h
       · exact k1 c h
       · rw [h, splice_len (by omega), hz]
     · rw [hb] at hb1
       simp only [Option.some.injEq, Prod.mk.injEq] at hb1
       obtain ⟨rfl, rfl⟩ := hb1
       refine ⟨_, t', hw', by simp [hsa]; omega, fun k j c x hk' hj => ?_⟩
       have hcl : c.length = z := by
         rcases List.mem_or_eq_of_mem_set (List.mem_of_getElem? hk') with h | h
         · exact k1 c h
         · rw [h, splice_len (by omega), hz]
       have hjz : j < z := hcl ▸ (List.getElem?_eq_some_iff.1 hj).1
       simp only [List.getElem?_toArray]
       rw [splice_get (by simp; omega)]
       simp only [Array.length_toList, hrl]
       rcases Nat.decEq el k with hne | rfl
       · rw [List.getElem?_set_ne hne] at hk'
         have hout : ¬ (d0 + el * z + o <= d0 + k * z + j /\ d0 + k * z + j < d0 + el * z + o + l.length) := by
           intro ⟨h1, h2⟩
           rcases Nat.lt_or_ge el k with hlt | hge
           · have : (el + 1) * z <= k * z := Nat.mul_le_mul_right _ hlt
             rw [Nat.add_mul] at this; omega
           · have : (k + 1) * z <= el * z := Nat.mul_le_mul_right _ (by omega)
             rw [Nat.add_mul] at this; omega
         rw [if_neg hout]
         obtain ⟨u, hu1, hu2⟩ := q3 k j c x hk' hj
         exact ⟨u, by simpa using hu1, hu2.mono hle.C hle.A⟩
       · rw [List.getElem?_set_self hlt] at hk'
         simp only [Option.some.injEq] at hk'
         subst hk'
         rw [splice_get (by omega)] at hj
         split at hj
         · rename_i hin
           rw [if_pos (by omega)]
           have e1 : d0 + el * z + j - (d0 + el * z + o) = j - o := by omega
           rw [e1]
           have hjl : j - o < l.length := by omega
           have hx := r2 (j - o) (.c x) (r.cells[j - o]'(by omega)) (by rw [hvc]; simp [hj]) (by simp)
           cases hx with | c _ _ hx =>
           exact ⟨r.cells[j - o]'(by omega), by simp, hx.mono hle.C hle.A⟩
         · rename_i hin
           rw [if_neg (by omega)]
           obtain ⟨u, hu1, hu2⟩ := q3 el j cs x hcs hj
           exact ⟨u, by simpa using hu1, hu2.mono hle.C hle.A⟩
   · exact ⟨rfl, rfl, rfl, by simp, fun b' _ hn => hk b' fun e => hn (e ▸ .inl ⟨i0, d0, ⟨_, hmem, rfl⟩, hb⟩), fun b' hb' => .inl (liv_set hmem rfl hb'), fun b' hb' => .inl hb'⟩
 · simp at h
end
end Go.Ev
