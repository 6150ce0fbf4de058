/-
  Chapter 31 (search), plain: runs as cells; what the functions compute.
-/
import Derived.Test.YtbilmkcdhodenaaDoorRD2
import Derived.Test.YtbilmkcdhodenaaDoorCT1
import Derived.Test.YtbilmkcdhodenaaDoorRD
set_option linter.all false
set_option linter.unusedSimpArgs false
set_option linter.unusedVariables false
section
namespace Go.Proofs.YtbilmkcdhodenaaDoor
open Go Go.Ev

def en (x : Rn) : List C := [.int .i64 x.c, .int .i64 x.v.k, .int .i64 x.v.n, .str x.v.s]
def dn (c : List C) : Rn := ⟨(c.headD .pnil).i, ⟨(c.tail.headD .pnil).i, (c.tail.tail.headD .pnil).i, (c.tail.tail.tail.headD .pnil).st⟩⟩
def skN : List Sk := [.int .i64, .int .i64, .int .i64, .str]
def rns (l : List Rn) : List (List C) := l.map en
def toRns (xs : List (List C)) : List Rn := xs.map dn
def isRns (xs : List (List C)) : Bool := xs.all fun c => shOk skN c
theorem en_of {c : List C} (h : shOk skN c = true) : c = en (dn c) := by
  conv => lhs; rw [← shape_ok h]
  rfl
theorem rns_ex {xs : List (List C)} (h : isRns xs = true) : ∃ l, xs = rns l := by
  induction xs with
  | nil => exact ⟨[], rfl⟩
  | cons c r ih =>
    simp only [isRns, List.all_cons, Bool.and_eq_true] at h
    obtain ⟨l, rfl⟩ := ih h.2
    exact ⟨dn c :: l, by have e := en_of h.1; simp only [rns, List.map_cons]; rw [← e]⟩
@[simp] theorem dn_en (r : Rn) : dn (en r) = r := rfl
@[simp] theorem en_ok (r : Rn) : shOk skN (en r) = true := rfl
@[simp] theorem en_ok' (r : Rn) : shOk [Sk.int .i64, Sk.int .i64, Sk.int .i64, Sk.str] (en r) = true := rfl
@[simp] theorem toRns_rns (l : List Rn) : toRns (rns l) = l := by simp [toRns, rns, Function.comp_def]
@[simp] theorem isRns_rns (l : List Rn) : isRns (rns l) = true := by simp [isRns, rns]
@[simp] theorem rns_length (l : List Rn) : (rns l).length = l.length := by simp [rns]
theorem rns_getD {l : List Rn} {i : Nat} (h : i < l.length) : (rns l).getD i [] = en l[i] := by simp [rns, List.getD_eq_getElem?_getD, h]
@[simp] theorem rns_take (l : List Rn) (n : Nat) : (rns l).take n = rns (l.take n) := by simp [rns, List.map_take]
@[simp] theorem rns_drop (l : List Rn) (n : Nat) : (rns l).drop n = rns (l.drop n) := by simp [rns, List.map_drop]
@[simp] theorem rns_append (l m : List Rn) : rns l ++ rns m = rns (l ++ m) := by simp [rns]
theorem rns_snoc' (l : List Rn) (x : Rn) : rns l ++ [en x] = rns (l ++ [x]) := by simp [rns]
theorem en_c (r : Rn) (d : C) : ((en r).headD d).i = r.c := rfl
theorem en_k (r : Rn) (d : C) : ((en r).tail.headD d).i = r.v.k := rfl
theorem en_n (r : Rn) (d : C) : ((en r).tail.tail.headD d).i = r.v.n := rfl
theorem en_s (r : Rn) (d : C) : ((en r).tail.tail.tail.headD d).st = r.v.s := rfl
theorem en_mk (r : Rn) (d : C) : [(Sk.int .i64).mk ((en r).headD d), (Sk.int .i64).mk ((en r).tail.headD d), (Sk.int .i64).mk ((en r).tail.tail.headD d), Sk.str.mk ((en r).tail.tail.tail.headD d)] = en r := rfl
theorem en_len (r : Rn) : (en r).length = 4 := rfl

/-! ## what the functions compute -/
/-- A commit behind runs; one that has the same value as the last one takes its place. -/
def stepR (out : List Rn) (s : Rn) : List Rn := match out.getLast? with
  | some x => if x.v = s.v then out.dropLast ++ [s] else out ++ [s]
  | none => out ++ [s]
/-- Without the last one, if that has no value. -/
def dropN (out : List Rn) : List Rn := match out.getLast? with
  | some x => if x.v.k = 0 then out.dropLast else out
  | none => out
def runsP (l : List Rn) : List Rn := (dropN (l.foldl stepR [])).reverse
/-- The last one of the first ones that have the same value as one. -/
def lastSame (s : Rn) : List Rn → Rn
  | [] => s
  | x :: r => if s.v = x.v then lastSame x r else s
def firstP (l : List Rn) : Int := match l with
  | [] => 0
  | s :: r => if s.v.k = 0 then 0 else (lastSame s r).c
/-- From which commit on it is so, told by the runs. -/
def firstRn (l : List Rn) : Int := match l.getLast? with
  | some x => if x.v.k = 0 then 0 else x.c
  | none => 0
def valueP (l : List Rn) : Val := match l with
  | [] => Val.none
  | s :: _ => s.v
def everP (l : List Rn) (v : Val) : List Int := (l.filter fun s => decide (s.v = v) && decide (v.k ≠ 0)).map fun s => s.c
/-- In which run a commit is; below 0: in none. -/
def riseN : List Rn → Bool
  | x :: y :: r => decide (x.c < y.c) && riseN (y :: r)
  | _ => true
def bsN (l : List Rn) (n : Int) : Nat → Nat → Nat → Nat
  | 0, lo, _ => lo
  | f + 1, lo, hi => if lo < hi then (if (l.getD ((lo + hi) / 2) default).c ≤ n then bsN l n f ((lo + hi) / 2 + 1) hi else bsN l n f lo ((lo + hi) / 2)) else lo
def halvesP (l : List Rn) (n : Int) : Int := if riseN l = true then (bsN l n l.length 0 l.length : Int) - 1 else -1
/-- As the reference finds it. -/
def halvesG (n : Int) : Option Int → Nat → Int → List Rn → Int
  | _, _, at_, [] => at_
  | p, k, at_, x :: r => if (match p with | some c => decide (x.c ≤ c) | none => false) = true then -1 else halvesG n (some x.c) (k + 1) (if x.c ≤ n then (k : Int) else at_) r
def halvesR (l : List Rn) (n : Int) : Int := halvesG n none 0 (-1) l

/-! ## what is known of each as a callee -/
def s101 : CSpec := fun a h => match a, h with
  | [.c (.sl 5 nl tt xs), .c (.int .i64 t)], [] => some ([isRows xs, decide (xs.length ≤ 4294967296)], [VV (atP (toRows xs) t), V.b ((atP (toRows xs) t).k != 0)], [])
  | _, _ => none
def s104 : CSpec := fun a h => match a, h with
  | [.c (.sl 5 nl tt xs), .c (.int .i64 t)], [] => some ([isRows xs, decide (xs.length < 4294967296)], [VV (hadF (toRows xs) t)], [])
  | _, _ => none
def s111 : CSpec := fun a h => match a, h with
  | [.agg [.c (.str s), .c (.sl 5 rn rt xs), .c (.sl 3 kn kt ys)]], [] => some ([isRows xs, isL ys], [V.b (!okR (.node s (toRows xs) (decL ys)))], [])
  | _, _ => none
/-- Where the first one stands that is not right. -/
def firstBad : List Nd → Nat → Int
  | [], _ => -1
  | t :: r, k => if okR t = true then firstBad r (k + 1) else (k : Int)
def s146 : CSpec := fun a h => match a, h with
  | [.c (.sl 3 kn kt ys), .fn 111 []], [] => some ([isL ys, decide (ys.length < 4294967296)], [V.i (firstBad (decL ys) 0)], [])
  | _, _ => none
def s110 : CSpec := fun a h => match a, h with
  | [.c (.sl 3 kn kt ys), .fn 111 []], [] => some ([isL ys, decide (ys.length < 4294967296)], [V.b (!(decL ys).all okR)], [])
  | _, _ => none
def checkW (l : List Gr.Cm) (ts : List Nd) : Int := if worldOk l ts = true then 0 else 2
def s66 : CSpec := fun a h => match a, h with
  | [.agg [.c (.sl 2 nl tt xs), .c (.sl 3 kn kt ys)]], [] => some ([Gr.isRepo xs, Gr.smallB (Gr.toRepo xs), isL ys, decide (ys.length < 4294967296)], [V.i (checkW (Gr.toRepo xs) (decL ys))], [])
  | _, _ => none
def s103 : CSpec := fun a h => match a, h with
  | [.agg [.c (.sl 2 nl tt xs), .c (.sl 3 kn kt ys)]], [] => some ([Gr.isRepo xs, Gr.smallB (Gr.toRepo xs), isL ys, decide (ys.length < 4294967296)], [V.b (worldOk (Gr.toRepo xs) (decL ys))], [])
  | _, _ => none
/-- Is there such a commit, of a right world? -/
def isP (l : List Gr.Cm) (ts : List Nd) (n : Int) : Bool := decide (1 ≤ n) && decide (n ≤ l.length) && worldOk l ts
def s61 : CSpec := fun a h => match a, h with
  | [.agg [.c (.sl 2 nl tt xs), .c (.sl 3 kn kt ys)], .c (.int .i64 n)], [] => some ([Gr.isRepo xs, Gr.smallB (Gr.toRepo xs), isL ys, decide (ys.length < 4294967296)], [V.b (isP (Gr.toRepo xs) (decL ys) n)], [])
  | _, _ => none
/-- As the reference has it. -/
def valR2 (ts : List Nd) (q : List UInt8) (t k : Int) : Val := hadF (getR (ts.getD (k - 1).toNat default) q) t
/-- Each tree has few entries. -/
def fewE (ts : List Nd) : Bool := ts.all fun t => decide ((entT t).length < 4294967290)
def s62 : CSpec := fun a h => match a, h with
  | [.agg [.c (.sl 2 nl tt xs), .c (.sl 3 kn kt ys)], .c (.int .i64 n), .c (.str q), .c (.int .i64 t)], [] => some ([isL ys, decide (1 ≤ n), decide (n ≤ ys.length), decide (ys.length < 4294967296), fewE (decL ys)], [VV (valR2 (decL ys) q t n)], [])
  | _, _ => none
def s60 : CSpec := fun a h => match a, h with
  | [.agg [.c (.sl 2 nl tt xs), .c (.sl 3 kn kt ys)], .c (.int .i64 n), .c (.str q), .c (.int .i64 t)], [] => some ([], [.fn 100 [.ptr 0 0 0 0, .ptr 1 0 0 0, .ptr 2 0 0 0, .ptr 3 0 0 0]], [.box [.c (.sl 2 nl tt xs), .c (.sl 3 kn kt ys)], .box [V.i n], .box [.c (.str q)], .box [V.i t]])
  | _, _ => none
/-! ## the reference -/
def valueR (l : List Gr.Cm) (ts : List Nd) (n : Int) (q : List UInt8) (t : Int) : Val := if isP l ts n = true then valR2 ts q t n else Val.none
def everR (l : List Gr.Cm) (ts : List Nd) (n : Int) (q : List UInt8) (t : Int) (v : Val) : List Int := if isP l ts n = true ∧ v.k ≠ 0 then (Gr.firstR l n).filter fun k => decide (valR2 ts q t k = v) else []
/-- Runs, from the oldest commit on. -/
def runG (f : Int → Val) (was : Val) : List Int → List Rn
  | [] => []
  | k :: r => if f k = was then runG f (f k) r else ⟨k, f k⟩ :: runG f (f k) r
def runsR (l : List Gr.Cm) (ts : List Nd) (n : Int) (q : List UInt8) (t : Int) : List Rn := if isP l ts n = true then runG (valR2 ts q t) Val.none (Gr.firstR l n).reverse else []
def sinceR (f : Int → Val) (v : Val) (at_ : Int) : List Int → Int
  | [] => at_
  | k :: r => if f k = v then sinceR f v k r else at_
def firstR2 (l : List Gr.Cm) (ts : List Nd) (n : Int) (q : List UInt8) (t : Int) : Int := if (valueR l ts n q t).k = 0 then 0 else sinceR (valR2 ts q t) (valueR l ts n q t) n (Gr.firstR l n)
def s18 : CSpec := fun a h => match a, h with
  | [.agg [.c (.sl 2 nl tt xs), .c (.sl 3 kn kt ys)], .c (.int .i64 n), .c (.str q), .c (.int .i64 t)], [] => some ([Gr.isRepo xs, Gr.smallB (Gr.toRepo xs), isL ys, decide (ys.length < 4294967296)], [VV (valueP (backP (Gr.toRepo xs) (decL ys) n q t)), V.b ((valueP (backP (Gr.toRepo xs) (decL ys) n q t)).k != 0)], [])
  | _, _ => none
def s21 : CSpec := fun a h => match a, h with
  | [.agg [.c (.sl 2 nl tt xs), .c (.sl 3 kn kt ys)], .c (.int .i64 n), .c (.str q), .c (.int .i64 t)], [] => some ([Gr.isRepo xs, Gr.smallB (Gr.toRepo xs), isL ys, decide (ys.length < 4294967296)], [.c (.sl 4 none false (rns (runsP (backP (Gr.toRepo xs) (decL ys) n q t))))], [])
  | _, _ => none
def s23 : CSpec := fun a h => match a, h with
  | [.agg [.c (.sl 2 nl tt xs), .c (.sl 3 kn kt ys)], .c (.int .i64 n), .c (.str q), .c (.int .i64 t)], [] => some ([Gr.isRepo xs, Gr.smallB (Gr.toRepo xs), isL ys, decide (ys.length < 4294967296)], [V.i (firstRn (runsP (backP (Gr.toRepo xs) (decL ys) n q t)))], [])
  | _, _ => none
def s19 : CSpec := fun a h => match a, h with
  | [.agg [.c (.sl 2 nl tt xs), .c (.sl 3 kn kt ys)], .c (.int .i64 n), .c (.str q), .c (.int .i64 t)], [] => some ([Gr.isRepo xs, Gr.smallB (Gr.toRepo xs), isL ys, decide (ys.length < 4294967296), fewE (decL ys)], [VV (valueR (Gr.toRepo xs) (decL ys) n q t), V.b ((valueR (Gr.toRepo xs) (decL ys) n q t).k != 0)], [])
  | _, _ => none
def s22 : CSpec := fun a h => match a, h with
  | [.agg [.c (.sl 2 nl tt xs), .c (.sl 3 kn kt ys)], .c (.int .i64 n), .c (.str q), .c (.int .i64 t)], [] => some ([Gr.isRepo xs, Gr.smallB (Gr.toRepo xs), isL ys, decide (ys.length < 4294967296), fewE (decL ys)], [.c (.sl 4 none false (rns (runsR (Gr.toRepo xs) (decL ys) n q t)))], [])
  | _, _ => none
def s24 : CSpec := fun a h => match a, h with
  | [.agg [.c (.sl 2 nl tt xs), .c (.sl 3 kn kt ys)], .c (.int .i64 n), .c (.str q), .c (.int .i64 t)], [] => some ([Gr.isRepo xs, Gr.smallB (Gr.toRepo xs), isL ys, decide (ys.length < 4294967296), fewE (decL ys)], [V.i (firstR2 (Gr.toRepo xs) (decL ys) n q t)], [])
  | _, _ => none
def s26 : CSpec := fun a h => match a, h with
  | [.agg [.c (.sl 2 nl tt xs), .c (.sl 3 kn kt ys)], .c (.int .i64 n), .c (.str q), .c (.int .i64 t), .agg [.c (.int .i64 k), .c (.int .i64 m), .c (.str s)]], [] => some ([Gr.isRepo xs, Gr.smallB (Gr.toRepo xs), isL ys, decide (ys.length < 4294967296)], [.c (.sl 1 none false (ints (everP (backP (Gr.toRepo xs) (decL ys) n q t) ⟨k, m, s⟩)))], [])
  | _, _ => none
def s27 : CSpec := fun a h => match a, h with
  | [.agg [.c (.sl 2 nl tt xs), .c (.sl 3 kn kt ys)], .c (.int .i64 n), .c (.str q), .c (.int .i64 t), .agg [.c (.int .i64 k), .c (.int .i64 m), .c (.str s)]], [] => some ([Gr.isRepo xs, Gr.smallB (Gr.toRepo xs), isL ys, decide (ys.length < 4294967296), fewE (decL ys)], [.c (.sl 1 none false (ints (everR (Gr.toRepo xs) (decL ys) n q t ⟨k, m, s⟩)))], [])
  | _, _ => none
def s63 : CSpec := fun a h => match a, h with
  | [.buf 0 0 0 len], [.mem 4 0 xs] => some ([isRns xs, decide (len ≤ xs.length), decide (len < 4294967296)], [], [.mem 4 0 (rns (((toRns xs).take len).reverse ++ (toRns xs).drop len))])
  | _, _ => none
def s20 : CSpec := fun a h => match a, h with
  | [.c (.sl 4 nl tt xs), .c (.sl 4 nl2 t2 ys)], [] => some ([isRns xs, isRns ys, decide (xs.length < 4294967296)], [V.b (decide (toRns xs = toRns ys))], [])
  | _, _ => none
def s58 : CSpec := fun a h => match a, h with
  | [.agg [.c (.int .i64 c), .c (.int .i64 k), .c (.int .i64 m), .c (.str s)], .c (.int .i64 n)], [] => some ([], [V.i (if c ≤ n then -1 else 1)], [])
  | _, _ => none
def s57 : CSpec := fun a h => match a, h with
  | [.c (.sl 4 nl tt xs), .c (.int .i64 n), .fn 58 []], [] => some ([isRns xs, decide (xs.length < 4294967296)], [V.i (bsN (toRns xs) n xs.length 0 xs.length), V.b false], [])
  | _, _ => none
def s15 : CSpec := fun a h => match a, h with
  | [.c (.sl 4 nl tt xs), .c (.int .i64 n)], [] => some ([isRns xs, decide (xs.length < 4294967296)], [V.i (halvesP (toRns xs) n)], [])
  | _, _ => none
def s16 : CSpec := fun a h => match a, h with
  | [.c (.sl 4 nl tt xs), .c (.int .i64 n)], [] => some ([isRns xs, decide (xs.length < 4294967296)], [V.i (halvesR (toRns xs) n)], [])
  | _, _ => none
def smallW (l : List Gr.Cm) (ts : List Nd) : Bool := decide (l.length ≤ 30) && decide (ts.length ≤ 30) && (l.all fun c => decide (c.1.length ≤ 5)) && decide (0 < leftL ts 600 60)
def s17 : CSpec := fun a h => match a, h with
  | [.agg [.c (.sl 2 nl tt xs), .c (.sl 3 kn kt ys)]], [] => some ([Gr.isRepo xs, isL ys, lensL (decL ys)], [V.b (smallW (Gr.toRepo xs) (decL ys))], [])
  | _, _ => none
end Go.Proofs.YtbilmkcdhodenaaDoor

end

/-
  Chapter 31 (search), trees, written by a program: worlds.
-/
section
namespace Go.Proofs.YtbilmkcdhodenaaDoor
open Go Go.Ev
set_option pp.deepTerms true
set_option pp.maxSteps 1000000
set_option pp.funBinderTypes true
set_option pp.coercions.types true
noncomputable abbrev p111 : Par := par E sh (ctOf [(112, s112)]) 111 1 0
theorem t111 (s : List UInt8) (rn : Option Bool) (rt : Bool) (xs : List (List C)) (kn : Option Bool) (kt : Bool) (ys : List (List C)) : p111.ft ([V.agg [V.c (C.str s), V.c (C.sl 5 rn rt xs), V.c (C.sl 3 kn kt ys)]]) ([]) = (Tr.chk (isRows xs) (Tr.chk (isL ys) (Tr.leaf (R.out [V.c (C.bool (checkT (Nd.node s (toRows xs) (decL ys)) != 0))] [])))) := by kernel_rfl
noncomputable abbrev p146 : Par := par E sh (ctOf [(111, s111)]) 146 2 0
abbrev s146_0 (kn : Option Bool) (kt : Bool) (ys : List (List C)) (i7 : Int) (i8 : Int) : Fr × Hp := ([(0, V.c (C.sl 3 kn kt ys)), (1, V.fn 111 []), (7, V.c (C.int IntKind.i64 i7)), (8, V.c (C.int IntKind.i64 i8))], [])
noncomputable abbrev b146_0 : Code := loopAt (codeOf p146.E p146.g) 0
abbrev x146_0x0 (i8 : Int) : Ex × Fr × Hp := (Ex.ret, [(4, V.c (C.int IntKind.i64 i8))], [])
abbrev x146_0x1 (kn : Option Bool) (kt : Bool) (ys : List (List C)) (i7 : Int) (i8 : Int) : Ex × Fr × Hp := (Ex.exit 0, [(0, V.c (C.sl 3 kn kt ys)), (1, V.fn 111 []), (7, V.c (C.int IntKind.i64 i7)), (8, V.c (C.int IntKind.i64 i8)), (9, V.c (C.bool false))], [])
theorem t146_0 (kn : Option Bool) (kt : Bool) (ys : List (List C)) (i7 : Int) (i8 : Int) : p146.lts b146_0 (s146_0 kn kt ys i7 i8) = (Tr.br (decide (i8 < i7)) (Tr.chk (decide (0 ≤ i8)) (Tr.chk true (Tr.chk (decide (i8.toNat < ys.length)) (Tr.chk (shOk [Sk.str, Sk.sl 5, Sk.sl 3] (ys.getD i8.toNat [])) (Tr.chk (isRows ((ys.getD i8.toNat []).tail.headD C.pnil).xs) (Tr.chk (isL ((ys.getD i8.toNat []).tail.tail.headD C.pnil).xs) (Tr.br (!okR (Nd.node ((ys.getD i8.toNat []).headD C.pnil).st (toRows ((ys.getD i8.toNat []).tail.headD C.pnil).xs) (decL ((ys.getD i8.toNat []).tail.tail.headD C.pnil).xs))) (Tr.leaf (R.x (x146_0x0 i8))) (Tr.leaf (R.s (s146_0 kn kt ys i7 (IntKind.i64.wrap (i8 + 1)))))))))))) (Tr.leaf (R.x (x146_0x1 kn kt ys i7 i8)))) := by kernel_rfl
theorem k146_0x0 (i8 : Int) : p146.fkx 0 (x146_0x0 i8) = (Tr.leaf (R.out [V.c (C.int IntKind.i64 i8)] [])) := by kernel_rfl
theorem k146_0x1 (kn : Option Bool) (kt : Bool) (ys : List (List C)) (i7 : Int) (i8 : Int) : p146.fkx 0 (x146_0x1 kn kt ys i7 i8) = (Tr.leaf (R.out [V.c (C.int IntKind.i64 (-1))] [])) := by kernel_rfl
theorem t146 (kn : Option Bool) (kt : Bool) (ys : List (List C)) : p146.ft ([V.c (C.sl 3 kn kt ys), V.fn 111 []]) ([]) = (Tr.ls 0 (s146_0 kn kt ys ((↑ys.length : Int)) (0))) := by kernel_rfl
noncomputable abbrev p110 : Par := par E sh (ctOf [(146, s146)]) 110 2 0
theorem t110 (kn : Option Bool) (kt : Bool) (ys : List (List C)) : p110.ft ([V.c (C.sl 3 kn kt ys), V.fn 111 []]) ([]) = (Tr.chk (isL ys) (Tr.chk (decide (ys.length < 4294967296)) (Tr.leaf (R.out [V.c (C.bool (decide (0 ≤ firstBad (decL ys) 0)))] [])))) := by kernel_rfl
noncomputable abbrev p66 : Par := par E sh (ctOf [(107, Gr.s107), (110, s110)]) 66 1 0
theorem t66 (nl : Option Bool) (tt : Bool) (xs : List (List C)) (kn : Option Bool) (kt : Bool) (ys : List (List C)) : p66.ft ([V.agg [V.c (C.sl 2 nl tt xs), V.c (C.sl 3 kn kt ys)]]) ([]) = (Tr.chk (Gr.isRepo xs) (Tr.chk (Gr.smallB (Gr.toRepo xs)) (Tr.br ((Gr.checkG (Gr.toRepo xs)).snd != 0) (Tr.leaf (R.out [V.c (C.int IntKind.i64 2)] [])) (Tr.br ((↑ys.length : Int) != (↑xs.length : Int)) (Tr.leaf (R.out [V.c (C.int IntKind.i64 2)] [])) (Tr.chk (isL ys) (Tr.chk (decide (ys.length < 4294967296)) (Tr.br (!(decL ys).all okR) (Tr.leaf (R.out [V.c (C.int IntKind.i64 2)] [])) (Tr.leaf (R.out [V.c (C.int IntKind.i64 0)] []))))))))) := by kernel_rfl
noncomputable abbrev p103 : Par := par E sh (ctOf [(141, Gr.s141), (142, s142)]) 103 1 0
abbrev s103_0 (nl : Option Bool) (tt : Bool) (xs : List (List C)) (kn : Option Bool) (kt : Bool) (ys : List (List C)) (i3 : Int) : Fr × Hp := ([(1, V.ptr 0 0 0 0), (3, V.c (C.int IntKind.i64 i3))], [O.box [V.c (C.sl 2 nl tt xs), V.c (C.sl 3 kn kt ys)]])
noncomputable abbrev b103_0 : Code := loopAt (codeOf p103.E p103.g) 0
abbrev x103_0x0 (nl : Option Bool) (tt : Bool) (xs : List (List C)) (kn : Option Bool) (kt : Bool) (ys : List (List C)) : Ex × Fr × Hp := (Ex.ret, [(2, V.c (C.bool false))], [O.box [V.c (C.sl 2 nl tt xs), V.c (C.sl 3 kn kt ys)]])
abbrev x103_0x1 (nl : Option Bool) (tt : Bool) (xs : List (List C)) (kn : Option Bool) (kt : Bool) (ys : List (List C)) (i3 : Int) : Ex × Fr × Hp := (Ex.exit 0, [(1, V.ptr 0 0 0 0), (3, V.c (C.int IntKind.i64 i3)), (21, V.c (C.bool false))], [O.box [V.c (C.sl 2 nl tt xs), V.c (C.sl 3 kn kt ys)]])
theorem t103_0 (nl : Option Bool) (tt : Bool) (xs : List (List C)) (kn : Option Bool) (kt : Bool) (ys : List (List C)) (i3 : Int) : p103.lts b103_0 (s103_0 nl tt xs kn kt ys i3) = (Tr.br (decide (i3 < (↑ys.length : Int))) (Tr.chk (decide (0 ≤ i3)) (Tr.chk true (Tr.chk (decide (i3.toNat < ys.length)) (Tr.chk (shOk [Sk.str, Sk.sl 5, Sk.sl 3] (ys.getD i3.toNat [])) (Tr.chk (isRows ((ys.getD i3.toNat []).tail.headD C.pnil).xs) (Tr.chk (isL ((ys.getD i3.toNat []).tail.tail.headD C.pnil).xs) (Tr.br (!okR (Nd.node ((ys.getD i3.toNat []).headD C.pnil).st (toRows ((ys.getD i3.toNat []).tail.headD C.pnil).xs) (decL ((ys.getD i3.toNat []).tail.tail.headD C.pnil).xs))) (Tr.leaf (R.x (x103_0x0 nl tt xs kn kt ys))) (Tr.leaf (R.s (s103_0 nl tt xs kn kt ys (IntKind.i64.wrap (i3 + 1)))))))))))) (Tr.leaf (R.x (x103_0x1 nl tt xs kn kt ys i3)))) := by kernel_rfl
theorem k103_0x0 (nl : Option Bool) (tt : Bool) (xs : List (List C)) (kn : Option Bool) (kt : Bool) (ys : List (List C)) : p103.fkx 0 (x103_0x0 nl tt xs kn kt ys) = (Tr.leaf (R.out [V.c (C.bool false)] [])) := by kernel_rfl
theorem k103_0x1 (nl : Option Bool) (tt : Bool) (xs : List (List C)) (kn : Option Bool) (kt : Bool) (ys : List (List C)) (i3 : Int) : p103.fkx 0 (x103_0x1 nl tt xs kn kt ys i3) = (Tr.leaf (R.out [V.c (C.bool true)] [])) := by kernel_rfl
theorem t103 (nl : Option Bool) (tt : Bool) (xs : List (List C)) (kn : Option Bool) (kt : Bool) (ys : List (List C)) : p103.ft ([V.agg [V.c (C.sl 2 nl tt xs), V.c (C.sl 3 kn kt ys)]]) ([]) = (Tr.br ((↑ys.length : Int) != (↑xs.length : Int)) (Tr.leaf (R.out [V.c (C.bool false)] [])) (Tr.chk (Gr.isRepo xs) (Tr.chk (Gr.smallB (Gr.toRepo xs)) (Tr.br (!Gr.right (Gr.toRepo xs)) (Tr.leaf (R.out [V.c (C.bool false)] [])) (Tr.ls 0 (s103_0 nl tt xs kn kt ys (0))))))) := by kernel_rfl
noncomputable abbrev p61 : Par := par E sh (ctOf [(103, s103)]) 61 2 0
theorem t61 (nl : Option Bool) (tt : Bool) (xs : List (List C)) (kn : Option Bool) (kt : Bool) (ys : List (List C)) (n : Int) : p61.ft ([V.agg [V.c (C.sl 2 nl tt xs), V.c (C.sl 3 kn kt ys)], V.i n]) ([]) = (Tr.br (decide (1 ≤ n)) (Tr.br (decide (n ≤ (↑xs.length : Int))) (Tr.chk (Gr.isRepo xs) (Tr.chk (Gr.smallB (Gr.toRepo xs)) (Tr.chk (isL ys) (Tr.chk (decide (ys.length < 4294967296)) (Tr.leaf (R.out [V.c (C.bool (worldOk (Gr.toRepo xs) (decL ys)))] [])))))) (Tr.leaf (R.out [V.c (C.bool false)] []))) (Tr.leaf (R.out [V.c (C.bool false)] []))) := by kernel_rfl
noncomputable abbrev p62 : Par := par E sh (ctOf [(104, s104), (105, s105)]) 62 4 0
theorem t62 (nl : Option Bool) (tt : Bool) (xs : List (List C)) (kn : Option Bool) (kt : Bool) (ys : List (List C)) (n : Int) (q : List UInt8) (t : Int) : p62.ft ([V.agg [V.c (C.sl 2 nl tt xs), V.c (C.sl 3 kn kt ys)], V.i n, V.c (C.str q), V.i t]) ([]) = (Tr.chk (decide (0 ≤ IntKind.i64.wrap (n - 1))) (Tr.chk true (Tr.chk (decide ((IntKind.i64.wrap (n - 1)).toNat < ys.length)) (Tr.chk (shOk [Sk.str, Sk.sl 5, Sk.sl 3] (ys.getD (IntKind.i64.wrap (n - 1)).toNat [])) (Tr.chk (isRows ((ys.getD (IntKind.i64.wrap (n - 1)).toNat []).tail.headD C.pnil).xs) (Tr.chk (isL ((ys.getD (IntKind.i64.wrap (n - 1)).toNat []).tail.tail.headD C.pnil).xs) (Tr.chk (decide ((entT (Nd.node ((ys.getD (IntKind.i64.wrap (n - 1)).toNat []).headD C.pnil).st (toRows ((ys.getD (IntKind.i64.wrap (n - 1)).toNat []).tail.headD C.pnil).xs) (decL ((ys.getD (IntKind.i64.wrap (n - 1)).toNat []).tail.tail.headD C.pnil).xs))).length < 4294967290)) (Tr.chk (isRows (rows (getR (Nd.node ((ys.getD (IntKind.i64.wrap (n - 1)).toNat []).headD C.pnil).st (toRows ((ys.getD (IntKind.i64.wrap (n - 1)).toNat []).tail.headD C.pnil).xs) (decL ((ys.getD (IntKind.i64.wrap (n - 1)).toNat []).tail.tail.headD C.pnil).xs)) q))) (Tr.chk (decide ((rows (getR (Nd.node ((ys.getD (IntKind.i64.wrap (n - 1)).toNat []).headD C.pnil).st (toRows ((ys.getD (IntKind.i64.wrap (n - 1)).toNat []).tail.headD C.pnil).xs) (decL ((ys.getD (IntKind.i64.wrap (n - 1)).toNat []).tail.tail.headD C.pnil).xs)) q)).length < 4294967296)) (Tr.leaf (R.out [V.agg [V.c (C.int IntKind.i64 (hadF (toRows (rows (getR (Nd.node ((ys.getD (IntKind.i64.wrap (n - 1)).toNat []).headD C.pnil).st (toRows ((ys.getD (IntKind.i64.wrap (n - 1)).toNat []).tail.headD C.pnil).xs) (decL ((ys.getD (IntKind.i64.wrap (n - 1)).toNat []).tail.tail.headD C.pnil).xs)) q))) t).k), V.c (C.int IntKind.i64 (hadF (toRows (rows (getR (Nd.node ((ys.getD (IntKind.i64.wrap (n - 1)).toNat []).headD C.pnil).st (toRows ((ys.getD (IntKind.i64.wrap (n - 1)).toNat []).tail.headD C.pnil).xs) (decL ((ys.getD (IntKind.i64.wrap (n - 1)).toNat []).tail.tail.headD C.pnil).xs)) q))) t).n), V.c (C.str (hadF (toRows (rows (getR (Nd.node ((ys.getD (IntKind.i64.wrap (n - 1)).toNat []).headD C.pnil).st (toRows ((ys.getD (IntKind.i64.wrap (n - 1)).toNat []).tail.headD C.pnil).xs) (decL ((ys.getD (IntKind.i64.wrap (n - 1)).toNat []).tail.tail.headD C.pnil).xs)) q))) t).s)]] []))))))))))) := by kernel_rfl
noncomputable abbrev p60 : Par := par E sh (ctOf []) 60 4 0
theorem t60 (nl : Option Bool) (tt : Bool) (xs : List (List C)) (kn : Option Bool) (kt : Bool) (ys : List (List C)) (n : Int) (q : List UInt8) (t : Int) : p60.ft ([V.agg [V.c (C.sl 2 nl tt xs), V.c (C.sl 3 kn kt ys)], V.i n, V.c (C.str q), V.i t]) ([]) = (Tr.leaf (R.out [V.fn 100 [V.ptr 0 0 0 0, V.ptr 1 0 0 0, V.ptr 2 0 0 0, V.ptr 3 0 0 0]] [O.box [V.c (C.sl 2 nl tt xs), V.c (C.sl 3 kn kt ys)], O.box [V.c (C.int IntKind.i64 n)], O.box [V.c (C.str q)], O.box [V.c (C.int IntKind.i64 t)]])) := by kernel_rfl
end Go.Proofs.YtbilmkcdhodenaaDoor

end

/-
  Chapter 31 (search), trees, written by a program: the iterator.
-/
section
namespace Go.Proofs.YtbilmkcdhodenaaDoor
open Go Go.Ev
set_option pp.deepTerms true
set_option pp.maxSteps 1000000
set_option pp.funBinderTypes true
set_option pp.coercions.types true
noncomputable abbrev p100 : Par := par E sh (ctOf [(28, Gr.s28), (66, s66), (101, s101), (102, s102)]) 100 5 5
abbrev s100_0 (nl : Option Bool) (tt : Bool) (xs : List (List C)) (kn : Option Bool) (kt : Bool) (ys : List (List C)) (n : Int) (q : List UInt8) (t : Int) (r : List (List V)) (b : Bool) (nl16 : Option Bool) (t16 : Bool) (xs16 : List (List C)) (i17 : Int) (i18 : Int) : Fr × Hp := ([(0, V.yl 4), (1, V.ptr 0 0 0 0), (3, V.ptr 2 0 0 0), (4, V.ptr 3 0 0 0), (16, V.c (C.sl 1 nl16 t16 xs16)), (17, V.c (C.int IntKind.i64 i17)), (18, V.c (C.int IntKind.i64 i18))], [O.box [V.c (C.sl 2 nl tt xs), V.c (C.sl 3 kn kt ys)], O.box [V.c (C.int IntKind.i64 n)], O.box [V.c (C.str q)], O.box [V.c (C.int IntKind.i64 t)], O.yo r b])
noncomputable abbrev b100_0 : Code := loopAt (codeOf p100.E p100.g) 0
abbrev x100_0x0 (nl : Option Bool) (tt : Bool) (xs : List (List C)) (kn : Option Bool) (kt : Bool) (ys : List (List C)) (n : Int) (q : List UInt8) (t : Int) (r : List (List V)) (b : Bool) (nl16 : Option Bool) (t16 : Bool) (xs16 : List (List C)) (i17 : Int) (i18 : Int) (ih5 : Int) (ih5_1 : Int) (sh5 : List UInt8) : Ex × Fr × Hp := (Ex.ret, [(0, V.yl 4), (1, V.ptr 0 0 0 0), (3, V.ptr 2 0 0 0), (4, V.ptr 3 0 0 0), (16, V.c (C.sl 1 nl16 t16 xs16)), (17, V.c (C.int IntKind.i64 i17)), (18, V.c (C.int IntKind.i64 i18)), (40, V.c (C.bool true))], [O.box [V.c (C.sl 2 nl tt xs), V.c (C.sl 3 kn kt ys)], O.box [V.c (C.int IntKind.i64 n)], O.box [V.c (C.str q)], O.box [V.c (C.int IntKind.i64 t)], O.yo r.tail b, O.box [V.c (C.int IntKind.i64 ih5), V.c (C.int IntKind.i64 ih5_1), V.c (C.str sh5)]])
abbrev x100_0x1 (nl : Option Bool) (tt : Bool) (xs : List (List C)) (kn : Option Bool) (kt : Bool) (ys : List (List C)) (n : Int) (q : List UInt8) (t : Int) (r : List (List V)) (b : Bool) (nl16 : Option Bool) (t16 : Bool) (xs16 : List (List C)) (i17 : Int) (i18 : Int) : Ex × Fr × Hp := (Ex.exit 0, [(0, V.yl 4), (1, V.ptr 0 0 0 0), (3, V.ptr 2 0 0 0), (4, V.ptr 3 0 0 0), (16, V.c (C.sl 1 nl16 t16 xs16)), (17, V.c (C.int IntKind.i64 i17)), (18, V.c (C.int IntKind.i64 i18)), (19, V.c (C.bool false))], [O.box [V.c (C.sl 2 nl tt xs), V.c (C.sl 3 kn kt ys)], O.box [V.c (C.int IntKind.i64 n)], O.box [V.c (C.str q)], O.box [V.c (C.int IntKind.i64 t)], O.yo r b])
theorem t100_0 (nl : Option Bool) (tt : Bool) (xs : List (List C)) (kn : Option Bool) (kt : Bool) (ys : List (List C)) (n : Int) (q : List UInt8) (t : Int) (r : List (List V)) (b : Bool) (nl16 : Option Bool) (t16 : Bool) (xs16 : List (List C)) (i17 : Int) (i18 : Int) : p100.lts b100_0 (s100_0 nl tt xs kn kt ys n q t r b nl16 t16 xs16 i17 i18) = (Tr.br (decide (i18 < i17)) (Tr.chk (decide (0 ≤ i18)) (Tr.chk true (Tr.chk (decide (i18.toNat < xs16.length)) (Tr.chk (shOk [Sk.int IntKind.i64] (xs16.getD i18.toNat [])) (Tr.chk (decide (0 ≤ IntKind.i64.wrap (((xs16.getD i18.toNat []).headD C.pnil).i - 1))) (Tr.chk true (Tr.chk (decide ((IntKind.i64.wrap (((xs16.getD i18.toNat []).headD C.pnil).i - 1)).toNat < ys.length)) (Tr.chk (shOk [Sk.str, Sk.sl 5, Sk.sl 3] (ys.getD (IntKind.i64.wrap (((xs16.getD i18.toNat []).headD C.pnil).i - 1)).toNat [])) (Tr.chk (isRows ((ys.getD (IntKind.i64.wrap (((xs16.getD i18.toNat []).headD C.pnil).i - 1)).toNat []).tail.headD C.pnil).xs) (Tr.chk (isL ((ys.getD (IntKind.i64.wrap (((xs16.getD i18.toNat []).headD C.pnil).i - 1)).toNat []).tail.tail.headD C.pnil).xs) (Tr.chk (isRows (rows (getR (Nd.node ((ys.getD (IntKind.i64.wrap (((xs16.getD i18.toNat []).headD C.pnil).i - 1)).toNat []).headD C.pnil).st (toRows ((ys.getD (IntKind.i64.wrap (((xs16.getD i18.toNat []).headD C.pnil).i - 1)).toNat []).tail.headD C.pnil).xs) (decL ((ys.getD (IntKind.i64.wrap (((xs16.getD i18.toNat []).headD C.pnil).i - 1)).toNat []).tail.tail.headD C.pnil).xs)) q))) (Tr.chk (decide ((rows (getR (Nd.node ((ys.getD (IntKind.i64.wrap (((xs16.getD i18.toNat []).headD C.pnil).i - 1)).toNat []).headD C.pnil).st (toRows ((ys.getD (IntKind.i64.wrap (((xs16.getD i18.toNat []).headD C.pnil).i - 1)).toNat []).tail.headD C.pnil).xs) (decL ((ys.getD (IntKind.i64.wrap (((xs16.getD i18.toNat []).headD C.pnil).i - 1)).toNat []).tail.tail.headD C.pnil).xs)) q)).length ≤ 4294967296)) (Tr.chk (yoHd r [V.agg [V.c (C.int IntKind.i64 ((xs16.getD i18.toNat []).headD C.pnil).i), V.c (C.int IntKind.i64 (atP (toRows (rows (getR (Nd.node ((ys.getD (IntKind.i64.wrap (((xs16.getD i18.toNat []).headD C.pnil).i - 1)).toNat []).headD C.pnil).st (toRows ((ys.getD (IntKind.i64.wrap (((xs16.getD i18.toNat []).headD C.pnil).i - 1)).toNat []).tail.headD C.pnil).xs) (decL ((ys.getD (IntKind.i64.wrap (((xs16.getD i18.toNat []).headD C.pnil).i - 1)).toNat []).tail.tail.headD C.pnil).xs)) q))) t).k), V.c (C.int IntKind.i64 (atP (toRows (rows (getR (Nd.node ((ys.getD (IntKind.i64.wrap (((xs16.getD i18.toNat []).headD C.pnil).i - 1)).toNat []).headD C.pnil).st (toRows ((ys.getD (IntKind.i64.wrap (((xs16.getD i18.toNat []).headD C.pnil).i - 1)).toNat []).tail.headD C.pnil).xs) (decL ((ys.getD (IntKind.i64.wrap (((xs16.getD i18.toNat []).headD C.pnil).i - 1)).toNat []).tail.tail.headD C.pnil).xs)) q))) t).n), V.c (C.str (atP (toRows (rows (getR (Nd.node ((ys.getD (IntKind.i64.wrap (((xs16.getD i18.toNat []).headD C.pnil).i - 1)).toNat []).headD C.pnil).st (toRows ((ys.getD (IntKind.i64.wrap (((xs16.getD i18.toNat []).headD C.pnil).i - 1)).toNat []).tail.headD C.pnil).xs) (decL ((ys.getD (IntKind.i64.wrap (((xs16.getD i18.toNat []).headD C.pnil).i - 1)).toNat []).tail.tail.headD C.pnil).xs)) q))) t).s)]]) (Tr.br (!yoAns r b) (Tr.leaf (R.x (x100_0x0 nl tt xs kn kt ys n q t r b nl16 t16 xs16 i17 i18 ((atP (toRows (rows (getR (Nd.node ((ys.getD (IntKind.i64.wrap (((xs16.getD i18.toNat []).headD C.pnil).i - 1)).toNat []).headD C.pnil).st (toRows ((ys.getD (IntKind.i64.wrap (((xs16.getD i18.toNat []).headD C.pnil).i - 1)).toNat []).tail.headD C.pnil).xs) (decL ((ys.getD (IntKind.i64.wrap (((xs16.getD i18.toNat []).headD C.pnil).i - 1)).toNat []).tail.tail.headD C.pnil).xs)) q))) t).k) ((atP (toRows (rows (getR (Nd.node ((ys.getD (IntKind.i64.wrap (((xs16.getD i18.toNat []).headD C.pnil).i - 1)).toNat []).headD C.pnil).st (toRows ((ys.getD (IntKind.i64.wrap (((xs16.getD i18.toNat []).headD C.pnil).i - 1)).toNat []).tail.headD C.pnil).xs) (decL ((ys.getD (IntKind.i64.wrap (((xs16.getD i18.toNat []).headD C.pnil).i - 1)).toNat []).tail.tail.headD C.pnil).xs)) q))) t).n) ((atP (toRows (rows (getR (Nd.node ((ys.getD (IntKind.i64.wrap (((xs16.getD i18.toNat []).headD C.pnil).i - 1)).toNat []).headD C.pnil).st (toRows ((ys.getD (IntKind.i64.wrap (((xs16.getD i18.toNat []).headD C.pnil).i - 1)).toNat []).tail.headD C.pnil).xs) (decL ((ys.getD (IntKind.i64.wrap (((xs16.getD i18.toNat []).headD C.pnil).i - 1)).toNat []).tail.tail.headD C.pnil).xs)) q))) t).s)))) (Tr.leaf (R.s (s100_0 nl tt xs kn kt ys n q t (r.tail) b nl16 t16 xs16 i17 (IntKind.i64.wrap (i18 + 1))))))))))))))))))) (Tr.leaf (R.x (x100_0x1 nl tt xs kn kt ys n q t r b nl16 t16 xs16 i17 i18)))) := by kernel_rfl
theorem k100_0x0 (nl : Option Bool) (tt : Bool) (xs : List (List C)) (kn : Option Bool) (kt : Bool) (ys : List (List C)) (n : Int) (q : List UInt8) (t : Int) (r : List (List V)) (b : Bool) (nl16 : Option Bool) (t16 : Bool) (xs16 : List (List C)) (i17 : Int) (i18 : Int) (ih5 : Int) (ih5_1 : Int) (sh5 : List UInt8) : p100.fkx 0 (x100_0x0 nl tt xs kn kt ys n q t r b nl16 t16 xs16 i17 i18 ih5 ih5_1 sh5) = (Tr.leaf (R.out [] [O.box [V.c (C.sl 2 nl tt xs), V.c (C.sl 3 kn kt ys)], O.box [V.c (C.int IntKind.i64 n)], O.box [V.c (C.str q)], O.box [V.c (C.int IntKind.i64 t)], O.yo r.tail b])) := by kernel_rfl
theorem k100_0x1 (nl : Option Bool) (tt : Bool) (xs : List (List C)) (kn : Option Bool) (kt : Bool) (ys : List (List C)) (n : Int) (q : List UInt8) (t : Int) (r : List (List V)) (b : Bool) (nl16 : Option Bool) (t16 : Bool) (xs16 : List (List C)) (i17 : Int) (i18 : Int) : p100.fkx 0 (x100_0x1 nl tt xs kn kt ys n q t r b nl16 t16 xs16 i17 i18) = (Tr.leaf (R.out [] [O.box [V.c (C.sl 2 nl tt xs), V.c (C.sl 3 kn kt ys)], O.box [V.c (C.int IntKind.i64 n)], O.box [V.c (C.str q)], O.box [V.c (C.int IntKind.i64 t)], O.yo r b])) := by kernel_rfl
theorem t100 (nl : Option Bool) (tt : Bool) (xs : List (List C)) (kn : Option Bool) (kt : Bool) (ys : List (List C)) (n : Int) (q : List UInt8) (t : Int) (r : List (List V)) (b : Bool) : p100.ft ([V.yl 4, V.ptr 0 0 0 0, V.ptr 1 0 0 0, V.ptr 2 0 0 0, V.ptr 3 0 0 0]) ([O.box [V.c (C.sl 2 nl tt xs), V.c (C.sl 3 kn kt ys)], O.box [V.i n], O.box [V.c (C.str q)], O.box [V.i t], O.yo r b]) = (Tr.chk (Gr.isRepo xs) (Tr.chk (Gr.smallB (Gr.toRepo xs)) (Tr.chk (isL ys) (Tr.chk (decide (ys.length < 4294967296)) (Tr.br (checkW (Gr.toRepo xs) (decL ys) != 0) (Tr.leaf (R.out [] [O.box [V.c (C.sl 2 nl tt xs), V.c (C.sl 3 kn kt ys)], O.box [V.c (C.int IntKind.i64 n)], O.box [V.c (C.str q)], O.box [V.c (C.int IntKind.i64 t)], O.yo r b])) (Tr.chk (Gr.isRepo xs) (Tr.chk (Gr.smallB (Gr.toRepo xs)) (Tr.ls 0 (s100_0 nl tt xs kn kt ys n q t r b (none) false (ints (Gr.firstG (Gr.toRepo xs) n)) ((↑(ints (Gr.firstG (Gr.toRepo xs) n)).length : Int)) (0)))))))))) := by kernel_rfl
end Go.Proofs.YtbilmkcdhodenaaDoor

end

/-
  Chapter 31 (search): right worlds; the iterator.
-/
section
namespace Go.Proofs.YtbilmkcdhodenaaDoor
open Go Go.Ev

theorem s101_ok : CSpecOk E 101 s101 := by
  intro a h cs vals h' he hc
  unfold s101 at he
  split at he <;> simp only [Option.some.injEq, Prod.mk.injEq, reduceCtorEq] at he
  rename_i nl tt xs t
  obtain ⟨rfl, rfl, rfl⟩ := he
  simp only [allT, Bool.and_true, Bool.and_eq_true, decide_eq_true_eq] at hc
  obtain ⟨h1, h2⟩ := hc
  obtain ⟨l, rfl⟩ := rows_ex h1
  rw [rows_length] at h2
  rw [toRows_rows]
  exact f101 l nl tt t h2
theorem s104_ok : CSpecOk E 104 s104 := by
  intro a h cs vals h' he hc
  unfold s104 at he
  split at he <;> simp only [Option.some.injEq, Prod.mk.injEq, reduceCtorEq] at he
  rename_i nl tt xs t
  obtain ⟨rfl, rfl, rfl⟩ := he
  simp only [allT, Bool.and_true, Bool.and_eq_true, decide_eq_true_eq] at hc
  obtain ⟨h1, h2⟩ := hc
  obtain ⟨l, rfl⟩ := rows_ex h1
  rw [rows_length] at h2
  rw [toRows_rows]
  exact f104 l nl tt t h2
theorem f111 (s : List UInt8) (rn : Option Bool) (rt : Bool) (rs : List Row) (kn : Option Bool) (kt : Bool) (ks : List Nd) : call E 111 [.agg [.c (.str s), .c (.sl 5 rn rt (rows rs)), .c (.sl 3 kn kt (encL ks))]] [] = some ([V.b (!okR (.node s rs ks))], []) := by
  have hct : (ctOf [(112, s112)]).ok E := ctOf_cons s112_ok ctOf_nil
  refine call_of (E := E) (sh := sh) (ct := ctOf [(112, s112)]) (na := 1) (m := 0) hct rfl rfl rfl rfl rfl rfl ?_
  rw [t111]
  simp only [nd_ok, nd_lab, nd_rows, nd_kids, encL_length, isL_enc, decL_enc, wrap_hd, hd_pos, ld_br, ld_chk', ld_leaf, fd_br, fd_chk', fd_leaf, decide_true, decide_eq_true_eq, if_true, Int.toNat_natCast, Int.natCast_nonneg, Int.ofNat_lt, Int.ofNat_le, Bool.false_eq_true, if_false, bne_iff_ne, beq_iff_eq, ne_eq, not_true_eq_false, not_false_eq_true, Bool.not_eq_true', decide_eq_false_iff_not, reduceCtorEq, rows_length, pcs_length, er_ok, er_ok', ep_ok, ep_ok', dr_er, dp_ep, isRows_rows, isPcs_pcs, toRows_rows, toPcs_pcs, rows_take, rows_drop, pcs_take, pcs_drop, rows_append, pcs_append, ints_length, isInts_ints, toInts_ints, ei_i, ei_ok, mk_headD, ints_take, ints_drop, ints_append, ints_snoc, ints_snoc', List.take_length, Nat.zero_add, Nat.le_refl, er_a, er_b, er_k, er_n, er_s, er_v, ep_a, ep_b, ep_hk, ep_hn, ep_hs, ep_wk, ep_wn, ep_ws, checkT]
  cases okR (.node s rs ks) <;> rfl
theorem s111_ok : CSpecOk E 111 s111 := by
  intro a h cs vals h' he hc
  unfold s111 at he
  split at he <;> simp only [Option.some.injEq, Prod.mk.injEq, reduceCtorEq] at he
  rename_i s rn rt xs kn kt ys
  obtain ⟨rfl, rfl, rfl⟩ := he
  simp only [allT, Bool.and_true, Bool.and_eq_true, decide_eq_true_eq] at hc
  obtain ⟨h1, h2⟩ := hc
  obtain ⟨rs, rfl⟩ := rows_ex h1
  obtain ⟨ks, rfl⟩ := isL_ex h2
  simp only [toRows_rows, decL_enc]
  exact f111 s rn rt rs kn kt ks
theorem f146 (ks : List Nd) (kn : Option Bool) (kt : Bool) (hl : ks.length < 4294967296) : call E 146 [.c (.sl 3 kn kt (encL ks)), .fn 111 []] [] = some ([V.i (firstBad ks 0)], []) := by
  have hct : (ctOf [(111, s111)]).ok E := ctOf_cons s111_ok ctOf_nil
  refine call_of (E := E) (sh := sh) (ct := ctOf [(111, s111)]) (na := 2) (m := 0) hct rfl rfl rfl rfl rfl rfl ?_
  rw [t146, encL_length]
  refine fd_post hct (by kernel_rfl) rfl (list_post (p := p146) hct (b := b146_0) ks.length (fun k (_ : Unit) => s146_0 kn kt (encL ks) ks.length k) (fun k _ => firstBad (ks.drop k) k = firstBad ks 0) _ ?_ ?_ 0 (Nat.zero_le _) () rfl)
  · rintro k _ hk hi
    rw [List.drop_eq_getElem_cons hk, firstBad] at hi
    rw [t146_0]
    simp only [nd_ok, nd_lab, nd_rows, nd_kids, encL_length, isL_enc, decL_enc, wrap_hd, hd_pos, ld_br, ld_chk', ld_leaf, fd_br, fd_chk', fd_leaf, decide_true, decide_eq_true_eq, if_true, Int.toNat_natCast, Int.natCast_nonneg, Int.ofNat_lt, Int.ofNat_le, Bool.false_eq_true, if_false, bne_iff_ne, beq_iff_eq, ne_eq, not_true_eq_false, not_false_eq_true, Bool.not_eq_true', decide_eq_false_iff_not, reduceCtorEq, rows_length, pcs_length, er_ok, er_ok', ep_ok, ep_ok', dr_er, dp_ep, isRows_rows, isPcs_pcs, toRows_rows, toPcs_pcs, rows_take, rows_drop, pcs_take, pcs_drop, rows_append, pcs_append, ints_length, isInts_ints, toInts_ints, ei_i, ei_ok, mk_headD, ints_take, ints_drop, ints_append, ints_snoc, ints_snoc', List.take_length, Nat.zero_add, Nat.le_refl, er_a, er_b, er_k, er_n, er_s, er_v, ep_a, ep_b, ep_hk, ep_hn, ep_hs, ep_wk, ep_wn, ep_ws, hk, encL_getD hk, nd_node, wrap_succ (show k < 9223372036854775807 by omega)]
    by_cases c : okR ks[k] = true
    · rw [if_pos c] at hi
      exact .inl ⟨(), hi, by simp [c]⟩
    · rw [if_neg c] at hi
      exact .inr ⟨x146_0x0 k, by simp, by rw [k146_0x0, fd_leaf, ← hi], by simp [c]⟩
  · rintro _ hi
    rw [List.drop_length, firstBad] at hi
    rw [t146_0]
    exact ⟨x146_0x1 kn kt (encL ks) ks.length ks.length, by simp, by rw [k146_0x1, fd_leaf, ← hi], by simp only [nd_ok, nd_lab, nd_rows, nd_kids, encL_length, isL_enc, decL_enc, wrap_hd, hd_pos, ld_br, ld_chk', ld_leaf, fd_br, fd_chk', fd_leaf, decide_true, decide_eq_true_eq, if_true, Int.toNat_natCast, Int.natCast_nonneg, Int.ofNat_lt, Int.ofNat_le, Bool.false_eq_true, if_false, bne_iff_ne, beq_iff_eq, ne_eq, not_true_eq_false, not_false_eq_true, Bool.not_eq_true', decide_eq_false_iff_not, reduceCtorEq, rows_length, pcs_length, er_ok, er_ok', ep_ok, ep_ok', dr_er, dp_ep, isRows_rows, isPcs_pcs, toRows_rows, toPcs_pcs, rows_take, rows_drop, pcs_take, pcs_drop, rows_append, pcs_append, ints_length, isInts_ints, toInts_ints, ei_i, ei_ok, mk_headD, ints_take, ints_drop, ints_append, ints_snoc, ints_snoc', List.take_length, Nat.zero_add, Nat.le_refl, er_a, er_b, er_k, er_n, er_s, er_v, ep_a, ep_b, ep_hk, ep_hn, ep_hs, ep_wk, ep_wn, ep_ws, Int.lt_irrefl]⟩
theorem s146_ok : CSpecOk E 146 s146 := by
  intro a h cs vals h' he hc
  unfold s146 at he
  split at he <;> simp only [Option.some.injEq, Prod.mk.injEq, reduceCtorEq] at he
  rename_i kn kt ys
  obtain ⟨rfl, rfl, rfl⟩ := he
  simp only [allT, Bool.and_true, Bool.and_eq_true, decide_eq_true_eq] at hc
  obtain ⟨h1, h2⟩ := hc
  obtain ⟨ks, rfl⟩ := isL_ex h1
  rw [encL_length] at h2
  rw [decL_enc]
  exact f146 ks kn kt h2
theorem firstBad_all : ∀ (l : List Nd) (k : Nat), decide (0 ≤ firstBad l k) = !l.all okR
  | [], k => rfl
  | t :: r, k => by
    rw [firstBad, List.all_cons]
    by_cases c : okR t = true
    · rw [if_pos c, firstBad_all r (k + 1), c, Bool.true_and]
    · rw [if_neg c]
      simp [c]
theorem f110 (ks : List Nd) (kn : Option Bool) (kt : Bool) (hl : ks.length < 4294967296) : call E 110 [.c (.sl 3 kn kt (encL ks)), .fn 111 []] [] = some ([V.b (!ks.all okR)], []) := by
  have hct : (ctOf [(146, s146)]).ok E := ctOf_cons s146_ok ctOf_nil
  refine call_of (E := E) (sh := sh) (ct := ctOf [(146, s146)]) (na := 2) (m := 0) hct rfl rfl rfl rfl rfl rfl ?_
  rw [t110]
  simp only [fd_chk', fd_leaf, encL_length, isL_enc, if_true, decL_enc, hl, decide_true, firstBad_all]
theorem s110_ok : CSpecOk E 110 s110 := by
  intro a h cs vals h' he hc
  unfold s110 at he
  split at he <;> simp only [Option.some.injEq, Prod.mk.injEq, reduceCtorEq] at he
  rename_i kn kt ys
  obtain ⟨rfl, rfl, rfl⟩ := he
  simp only [allT, Bool.and_true, Bool.and_eq_true, decide_eq_true_eq] at hc
  obtain ⟨h1, h2⟩ := hc
  obtain ⟨ks, rfl⟩ := isL_ex h1
  rw [encL_length] at h2
  rw [decL_enc]
  exact f110 ks kn kt h2
theorem repo_ex {xs : List (List C)} (h : Gr.isRepo xs = true) : ∃ l, xs = Gr.repo l := ⟨_, Gr.repo_of h⟩
theorem f66 (l : List Gr.Cm) (ks : List Nd) (nl : Option Bool) (tt : Bool) (kn : Option Bool) (kt : Bool) (hs : Gr.smallB l = true) (hl : ks.length < 4294967296) : call E 66 [.agg [.c (.sl 2 nl tt (Gr.repo l)), .c (.sl 3 kn kt (encL ks))]] [] = some ([V.i (checkW l ks)], []) := by
  have hct : (ctOf [(107, Gr.s107), (110, s110)]).ok E := ctOf_cons Gr.s107_ok (ctOf_cons s110_ok ctOf_nil)
  refine call_of (E := E) (sh := sh) (ct := ctOf [(107, Gr.s107), (110, s110)]) (na := 1) (m := 0) hct rfl rfl rfl rfl rfl rfl ?_
  rw [t66]
  simp only [nd_ok, nd_lab, nd_rows, nd_kids, encL_length, isL_enc, decL_enc, wrap_hd, hd_pos, ld_br, ld_chk', ld_leaf, fd_br, fd_chk', fd_leaf, decide_true, decide_eq_true_eq, if_true, Int.toNat_natCast, Int.natCast_nonneg, Int.ofNat_lt, Int.ofNat_le, Bool.false_eq_true, if_false, bne_iff_ne, beq_iff_eq, ne_eq, not_true_eq_false, not_false_eq_true, Bool.not_eq_true', decide_eq_false_iff_not, reduceCtorEq, rows_length, pcs_length, er_ok, er_ok', ep_ok, ep_ok', dr_er, dp_ep, isRows_rows, isPcs_pcs, toRows_rows, toPcs_pcs, rows_take, rows_drop, pcs_take, pcs_drop, rows_append, pcs_append, ints_length, isInts_ints, toInts_ints, ei_i, ei_ok, mk_headD, ints_take, ints_drop, ints_append, ints_snoc, ints_snoc', List.take_length, Nat.zero_add, Nat.le_refl, er_a, er_b, er_k, er_n, er_s, er_v, ep_a, ep_b, ep_hk, ep_hn, ep_hs, ep_wk, ep_wn, ep_ws, Gr.isRepo_repo, Gr.toRepo_repo, Gr.repo_length, hs, hl]
  unfold checkW worldOk Gr.right
  by_cases c1 : (Gr.checkG l).2 = 0
  · by_cases c2 : ks.length = l.length
    · have c3 : (ks.length : Int) = l.length := by omega
      simp only [c1, c2, not_true_eq_false, if_false, decide_true, Bool.and_true, beq_self_eq_true, Bool.true_and]
      cases ks.all okR <;> simp
    · have c3 : ¬ (ks.length : Int) = l.length := by omega
      simp [c1, c2, c3]
  · simp [c1]
theorem s66_ok : CSpecOk E 66 s66 := by
  intro a h cs vals h' he hc
  unfold s66 at he
  split at he <;> simp only [Option.some.injEq, Prod.mk.injEq, reduceCtorEq] at he
  rename_i nl tt xs kn kt ys
  obtain ⟨rfl, rfl, rfl⟩ := he
  simp only [allT, Bool.and_true, Bool.and_eq_true, decide_eq_true_eq] at hc
  obtain ⟨h1, h2, h3, h4⟩ := hc
  obtain ⟨l, rfl⟩ := repo_ex h1
  obtain ⟨ks, rfl⟩ := isL_ex h3
  rw [encL_length] at h4
  rw [Gr.toRepo_repo] at h2
  rw [decL_enc, Gr.toRepo_repo]
  exact f66 l ks nl tt kn kt h2 h4
theorem f103 (l : List Gr.Cm) (ks : List Nd) (nl : Option Bool) (tt : Bool) (kn : Option Bool) (kt : Bool) (hs : Gr.smallB l = true) (hl : ks.length < 4294967296) : call E 103 [.agg [.c (.sl 2 nl tt (Gr.repo l)), .c (.sl 3 kn kt (encL ks))]] [] = some ([V.b (worldOk l ks)], []) := by
  have hct : (ctOf [(141, Gr.s141), (142, s142)]).ok E := ctOf_cons Gr.s141_ok (ctOf_cons s142_ok ctOf_nil)
  refine call_of (E := E) (sh := sh) (ct := ctOf [(141, Gr.s141), (142, s142)]) (na := 1) (m := 0) hct rfl rfl rfl rfl rfl rfl ?_
  rw [t103]
  simp only [nd_ok, nd_lab, nd_rows, nd_kids, encL_length, isL_enc, decL_enc, wrap_hd, hd_pos, ld_br, ld_chk', ld_leaf, fd_br, fd_chk', fd_leaf, decide_true, decide_eq_true_eq, if_true, Int.toNat_natCast, Int.natCast_nonneg, Int.ofNat_lt, Int.ofNat_le, Bool.false_eq_true, if_false, bne_iff_ne, beq_iff_eq, ne_eq, not_true_eq_false, not_false_eq_true, Bool.not_eq_true', decide_eq_false_iff_not, reduceCtorEq, rows_length, pcs_length, er_ok, er_ok', ep_ok, ep_ok', dr_er, dp_ep, isRows_rows, isPcs_pcs, toRows_rows, toPcs_pcs, rows_take, rows_drop, pcs_take, pcs_drop, rows_append, pcs_append, ints_length, isInts_ints, toInts_ints, ei_i, ei_ok, mk_headD, ints_take, ints_drop, ints_append, ints_snoc, ints_snoc', List.take_length, Nat.zero_add, Nat.le_refl, er_a, er_b, er_k, er_n, er_s, er_v, ep_a, ep_b, ep_hk, ep_hn, ep_hs, ep_wk, ep_wn, ep_ws, Gr.isRepo_repo, Gr.toRepo_repo, Gr.repo_length, hs]
  by_cases c2 : ks.length = l.length
  case neg =>
    have c3 : ¬ (ks.length : Int) = l.length := by omega
    simp [worldOk, c2, c3]
  have c3 : (ks.length : Int) = l.length := by omega
  by_cases c1 : Gr.right l = false
  · simp [c3, c1, worldOk]
  rw [if_neg (by simp [c3]), if_neg c1]
  have hw : worldOk l ks = ks.all okR := by rw [Bool.not_eq_false] at c1; simp [worldOk, c1, c2]
  rw [hw]
  refine fd_post hct (by kernel_rfl) rfl (list_post (p := p103) hct (b := b103_0) ks.length (fun k (_ : Unit) => s103_0 nl tt (Gr.repo l) kn kt (encL ks) k) (fun k _ => (ks.drop k).all okR = ks.all okR) _ ?_ ?_ 0 (Nat.zero_le _) () rfl)
  · rintro k _ hk hi
    rw [List.drop_eq_getElem_cons hk, List.all_cons] at hi
    rw [t103_0]
    simp only [nd_ok, nd_lab, nd_rows, nd_kids, encL_length, isL_enc, decL_enc, wrap_hd, hd_pos, ld_br, ld_chk', ld_leaf, fd_br, fd_chk', fd_leaf, decide_true, decide_eq_true_eq, if_true, Int.toNat_natCast, Int.natCast_nonneg, Int.ofNat_lt, Int.ofNat_le, Bool.false_eq_true, if_false, bne_iff_ne, beq_iff_eq, ne_eq, not_true_eq_false, not_false_eq_true, Bool.not_eq_true', decide_eq_false_iff_not, reduceCtorEq, rows_length, pcs_length, er_ok, er_ok', ep_ok, ep_ok', dr_er, dp_ep, isRows_rows, isPcs_pcs, toRows_rows, toPcs_pcs, rows_take, rows_drop, pcs_take, pcs_drop, rows_append, pcs_append, ints_length, isInts_ints, toInts_ints, ei_i, ei_ok, mk_headD, ints_take, ints_drop, ints_append, ints_snoc, ints_snoc', List.take_length, Nat.zero_add, Nat.le_refl, er_a, er_b, er_k, er_n, er_s, er_v, ep_a, ep_b, ep_hk, ep_hn, ep_hs, ep_wk, ep_wn, ep_ws, hk, encL_getD hk, nd_node, wrap_succ (show k < 9223372036854775807 by omega)]
    by_cases c : okR ks[k] = false
    · rw [c, Bool.false_and] at hi
      exact .inr ⟨x103_0x0 nl tt (Gr.repo l) kn kt (encL ks), by simp, by rw [k103_0x0, fd_leaf, ← hi], by rw [if_pos c]⟩
    · rw [Bool.not_eq_false] at c
      rw [c, Bool.true_and] at hi
      exact .inl ⟨(), hi, by simp [c]⟩
  · rintro _ hi
    rw [List.drop_length, List.all_nil] at hi
    rw [t103_0]
    exact ⟨x103_0x1 nl tt (Gr.repo l) kn kt (encL ks) ks.length, by simp, by rw [k103_0x1, fd_leaf, ← hi], by simp only [nd_ok, nd_lab, nd_rows, nd_kids, encL_length, isL_enc, decL_enc, wrap_hd, hd_pos, ld_br, ld_chk', ld_leaf, fd_br, fd_chk', fd_leaf, decide_true, decide_eq_true_eq, if_true, Int.toNat_natCast, Int.natCast_nonneg, Int.ofNat_lt, Int.ofNat_le, Bool.false_eq_true, if_false, bne_iff_ne, beq_iff_eq, ne_eq, not_true_eq_false, not_false_eq_true, Bool.not_eq_true', decide_eq_false_iff_not, reduceCtorEq, rows_length, pcs_length, er_ok, er_ok', ep_ok, ep_ok', dr_er, dp_ep, isRows_rows, isPcs_pcs, toRows_rows, toPcs_pcs, rows_take, rows_drop, pcs_take, pcs_drop, rows_append, pcs_append, ints_length, isInts_ints, toInts_ints, ei_i, ei_ok, mk_headD, ints_take, ints_drop, ints_append, ints_snoc, ints_snoc', List.take_length, Nat.zero_add, Nat.le_refl, er_a, er_b, er_k, er_n, er_s, er_v, ep_a, ep_b, ep_hk, ep_hn, ep_hs, ep_wk, ep_wn, ep_ws, Int.lt_irrefl]⟩
theorem s103_ok : CSpecOk E 103 s103 := by
  intro a h cs vals h' he hc
  unfold s103 at he
  split at he <;> simp only [Option.some.injEq, Prod.mk.injEq, reduceCtorEq] at he
  rename_i nl tt xs kn kt ys
  obtain ⟨rfl, rfl, rfl⟩ := he
  simp only [allT, Bool.and_true, Bool.and_eq_true, decide_eq_true_eq] at hc
  obtain ⟨h1, h2, h3, h4⟩ := hc
  obtain ⟨l, rfl⟩ := repo_ex h1
  obtain ⟨ks, rfl⟩ := isL_ex h3
  rw [encL_length] at h4
  rw [Gr.toRepo_repo] at h2
  rw [decL_enc, Gr.toRepo_repo]
  exact f103 l ks nl tt kn kt h2 h4
theorem f61 (l : List Gr.Cm) (ks : List Nd) (nl : Option Bool) (tt : Bool) (kn : Option Bool) (kt : Bool) (n : Int) (hs : Gr.smallB l = true) (hl : ks.length < 4294967296) : call E 61 [.agg [.c (.sl 2 nl tt (Gr.repo l)), .c (.sl 3 kn kt (encL ks))], V.i n] [] = some ([V.b (isP l ks n)], []) := by
  have hct : (ctOf [(103, s103)]).ok E := ctOf_cons s103_ok ctOf_nil
  refine call_of (E := E) (sh := sh) (ct := ctOf [(103, s103)]) (na := 2) (m := 0) hct rfl rfl rfl rfl rfl rfl ?_
  rw [t61]
  simp only [nd_ok, nd_lab, nd_rows, nd_kids, encL_length, isL_enc, decL_enc, wrap_hd, hd_pos, ld_br, ld_chk', ld_leaf, fd_br, fd_chk', fd_leaf, decide_true, decide_eq_true_eq, if_true, Int.toNat_natCast, Int.natCast_nonneg, Int.ofNat_lt, Int.ofNat_le, Bool.false_eq_true, if_false, bne_iff_ne, beq_iff_eq, ne_eq, not_true_eq_false, not_false_eq_true, Bool.not_eq_true', decide_eq_false_iff_not, reduceCtorEq, rows_length, pcs_length, er_ok, er_ok', ep_ok, ep_ok', dr_er, dp_ep, isRows_rows, isPcs_pcs, toRows_rows, toPcs_pcs, rows_take, rows_drop, pcs_take, pcs_drop, rows_append, pcs_append, ints_length, isInts_ints, toInts_ints, ei_i, ei_ok, mk_headD, ints_take, ints_drop, ints_append, ints_snoc, ints_snoc', List.take_length, Nat.zero_add, Nat.le_refl, er_a, er_b, er_k, er_n, er_s, er_v, ep_a, ep_b, ep_hk, ep_hn, ep_hs, ep_wk, ep_wn, ep_ws, Gr.isRepo_repo, Gr.toRepo_repo, Gr.repo_length, hs, hl, isP]
  by_cases c1 : 1 ≤ n
  · by_cases c2 : n ≤ l.length <;> simp [c1, c2]
  · simp [c1]
theorem s61_ok : CSpecOk E 61 s61 := by
  intro a h cs vals h' he hc
  unfold s61 at he
  split at he <;> simp only [Option.some.injEq, Prod.mk.injEq, reduceCtorEq] at he
  rename_i nl tt xs kn kt ys n
  obtain ⟨rfl, rfl, rfl⟩ := he
  simp only [allT, Bool.and_true, Bool.and_eq_true, decide_eq_true_eq] at hc
  obtain ⟨h1, h2, h3, h4⟩ := hc
  obtain ⟨l, rfl⟩ := repo_ex h1
  obtain ⟨ks, rfl⟩ := isL_ex h3
  rw [encL_length] at h4
  rw [Gr.toRepo_repo] at h2
  rw [decL_enc, Gr.toRepo_repo]
  exact f61 l ks nl tt kn kt n h2 h4
theorem getW_len : ∀ (n : Nat) (t : Nd) (p : List UInt8) (k : Nat), okL t.kids k (-1) = true → t.rows.length ≤ 64 → (getW n t p).length ≤ 64
  | 0, t, p, k, _, h => by rw [getW]; exact h
  | n + 1, t, [], k, _, h => by rw [getW]; exact h
  | n + 1, t, b :: p, k, hk, h => by
    rw [getW]
    cases hf : findK b t.kids with
    | none => simp
    | some x =>
      have hm : x ∈ t.kids := List.mem_of_find?_eq_some hf
      have hx := (okL_mem hk x hm).1
      simp only
      split
      · exact getW_len n x _ _ (okT_lab hx).2.2 (right_len4 (okT_right hx))
      · simp
theorem getR_len (t : Nd) (p : List UInt8) : (getR t p).length ≤ 64 := by
  unfold getR
  split
  · rename_i h
    simp only [okR, Bool.and_eq_true, decide_eq_true_eq] at h
    exact getW_len _ _ _ _ h.2 (by rw [h.1.2]; simp)
  · simp
theorem fewE_at {ks : List Nd} (h : fewE ks = true) {k : Nat} (hk : k < ks.length) : (entT ks[k]).length < 4294967290 := by
  have := List.all_eq_true.1 h ks[k] (List.getElem_mem hk); simpa using this
theorem f62 (xs : List (List C)) (ks : List Nd) (nl : Option Bool) (tt : Bool) (kn : Option Bool) (kt : Bool) (n : Int) (q : List UInt8) (t : Int) (h1 : 1 ≤ n) (h2 : n ≤ ks.length) (hl : ks.length < 4294967296) (hf : fewE ks = true) : call E 62 [.agg [.c (.sl 2 nl tt xs), .c (.sl 3 kn kt (encL ks))], V.i n, .c (.str q), V.i t] [] = some ([VV (valR2 ks q t n)], []) := by
  have hct : (ctOf [(104, s104), (105, s105)]).ok E := ctOf_cons s104_ok (ctOf_cons s105_ok ctOf_nil)
  refine call_of (E := E) (sh := sh) (ct := ctOf [(104, s104), (105, s105)]) (na := 4) (m := 0) hct rfl rfl rfl rfl rfl rfl ?_
  obtain ⟨k, rfl⟩ : ∃ k : Nat, n = (k : Int) + 1 := ⟨(n - 1).toNat, by omega⟩
  have hk : k < ks.length := by omega
  have w : IntKind.wrap .i64 ((k : Int) + 1 - 1) = (k : Int) := by rw [wrap_same (by omega) (by omega)]; omega
  have e : (((k : Int) + 1 - 1).toNat) = k := by omega
  have hg := getR_len ks[k] q
  rw [t62]
  simp only [w, nd_ok, nd_lab, nd_rows, nd_kids, encL_length, isL_enc, decL_enc, wrap_hd, hd_pos, ld_br, ld_chk', ld_leaf, fd_br, fd_chk', fd_leaf, decide_true, decide_eq_true_eq, if_true, Int.toNat_natCast, Int.natCast_nonneg, Int.ofNat_lt, Int.ofNat_le, Bool.false_eq_true, if_false, bne_iff_ne, beq_iff_eq, ne_eq, not_true_eq_false, not_false_eq_true, Bool.not_eq_true', decide_eq_false_iff_not, reduceCtorEq, rows_length, pcs_length, er_ok, er_ok', ep_ok, ep_ok', dr_er, dp_ep, isRows_rows, isPcs_pcs, toRows_rows, toPcs_pcs, rows_take, rows_drop, pcs_take, pcs_drop, rows_append, pcs_append, ints_length, isInts_ints, toInts_ints, ei_i, ei_ok, mk_headD, ints_take, ints_drop, ints_append, ints_snoc, ints_snoc', List.take_length, Nat.zero_add, Nat.le_refl, er_a, er_b, er_k, er_n, er_s, er_v, ep_a, ep_b, ep_hk, ep_hn, ep_hs, ep_wk, ep_wn, ep_ws, hk, encL_getD hk, nd_node, fewE_at hf hk, show (getR ks[k] q).length < 4294967296 by omega, valR2, e, getD_at' hk]
theorem s62_ok : CSpecOk E 62 s62 := by
  intro a h cs vals h' he hc
  unfold s62 at he
  split at he <;> simp only [Option.some.injEq, Prod.mk.injEq, reduceCtorEq] at he
  rename_i nl tt xs kn kt ys n q t
  obtain ⟨rfl, rfl, rfl⟩ := he
  simp only [allT, Bool.and_true, Bool.and_eq_true, decide_eq_true_eq] at hc
  obtain ⟨h1, h2, h3, h4, h5⟩ := hc
  obtain ⟨ks, rfl⟩ := isL_ex h1
  rw [encL_length] at h3 h4
  rw [decL_enc] at *
  exact f62 xs ks nl tt kn kt n q t h2 h3 h4 h5
theorem s60_ok : CSpecOk E 60 s60 := by
  intro a h cs vals h' he hc
  unfold s60 at he
  split at he <;> simp only [Option.some.injEq, Prod.mk.injEq, reduceCtorEq] at he
  rename_i nl tt xs kn kt ys n q t
  obtain ⟨rfl, rfl, rfl⟩ := he
  simp only [allT, Bool.and_true, Bool.and_eq_true, decide_eq_true_eq] at hc
  refine call_of (E := E) (sh := sh) (ct := ctOf []) (na := 4) (m := 0) ctOf_nil rfl rfl rfl rfl rfl rfl ?_
  rw [t60]
  exact rfl
end Go.Proofs.YtbilmkcdhodenaaDoor

end

/-
  Chapter 31 (search): the iterator.
-/
section
namespace Go.Proofs.YtbilmkcdhodenaaDoor
open Go Go.Ev

theorem firstFrom_mem {l : List Gr.Cm} (ha : Gr.Ahead l) : ∀ (k : Nat) (ps : List Int), (∀ p ∈ ps, 1 ≤ p ∧ p ≤ l.length) → ∀ x ∈ Gr.firstFrom l k ps, 1 ≤ x ∧ x ≤ l.length
  | 0, ps, _, x, hx => by rw [Gr.firstFrom] at hx; simp at hx
  | k + 1, [], _, x, hx => by rw [Gr.firstFrom] at hx; simp at hx
  | k + 1, p :: ps, h, x, hx => by
    rw [Gr.firstFrom] at hx
    rcases List.mem_cons.1 hx with rfl | hx
    · exact h x (by simp)
    · have hp := h p (by simp)
      refine firstFrom_mem ha k _ (fun y hy => ?_) x hx
      have := ha p.toNat y (by unfold Gr.par; rwa [show p.toNat - 1 = (p - 1).toNat by omega])
      omega
theorem firstFrom_len (l : List Gr.Cm) : ∀ (k : Nat) (ps : List Int), (Gr.firstFrom l k ps).length ≤ k
  | 0, ps => by rw [Gr.firstFrom]; simp
  | k + 1, [] => by rw [Gr.firstFrom]; simp
  | k + 1, p :: ps => by
    rw [Gr.firstFrom, List.length_cons]
    have := firstFrom_len l k (l.getD (p - 1).toNat ([], 0)).1
    omega
theorem firstG_mem {l : List Gr.Cm} {n x : Int} (h : x ∈ Gr.firstG l n) : 1 ≤ x ∧ x ≤ l.length := by
  unfold Gr.firstG at h
  split at h
  · rename_i hh
    obtain ⟨hr, h1, h2⟩ := Gr.has_one hh
    have ha := Gr.right_ahead hr
    rcases List.mem_cons.1 h with rfl | h
    · exact ⟨h1, h2⟩
    · refine firstFrom_mem ha _ _ (fun y hy => ?_) x h
      have := ha n.toNat y (by unfold Gr.par; rwa [show n.toNat - 1 = (n - 1).toNat by omega])
      omega
  · simp at h
theorem firstG_len (l : List Gr.Cm) (n : Int) : (Gr.firstG l n).length ≤ 501 := by
  unfold Gr.firstG
  split
  · rename_i hh
    obtain ⟨hr, h1, h2⟩ := Gr.has_one hh
    have h3 := Gr.right_len hr
    have h4 := firstFrom_len l n.toNat (l.getD (n - 1).toNat ([], 0)).1
    rw [List.length_cons]; omega
  · simp
/-! ## what a loop wants of an iterator -/
theorem want_take {es u : List (List V)} {b : Bool} (hw : Want es u b) : ∃ m, u = es.take m ∧ m ≤ es.length ∧ (b = false → m = es.length) ∧ (b = true → 1 ≤ m) := by
  rcases hw with ⟨h1, h2⟩ | ⟨h1, h2, h3⟩
  · exact ⟨es.length, by rw [List.take_length]; exact h2, Nat.le_refl _, fun _ => rfl, fun h => by rw [h1] at h; cases h⟩
  · exact ⟨u.length, List.prefix_iff_eq_take.1 h3, h3.length_le, fun h => (by rw [h1] at h; cases h), fun _ => List.length_pos_iff.2 h2⟩
theorem take_drop_cons {α : Type} {l : List α} {m i : Nat} (hi : i < m) (hm : m ≤ l.length) : (l.take m).drop i = l[i]'(by omega) :: (l.take m).drop (i + 1) := by
  have h : i < (l.take m).length := by rw [List.length_take]; omega
  rw [List.drop_eq_getElem_cons h, List.getElem_take]
theorem eqb_encN (c k n : Int) (s : List UInt8) : eqbV [V.agg [V.i c, V.i k, V.i n, V.c (C.str s)]] (encN ⟨c, ⟨k, n, s⟩⟩) = true := by simp [encN, VN, eqbV, V.eqb, C.eqb]
def boxW (nl : Option Bool) (tt : Bool) (l : List Gr.Cm) (kn : Option Bool) (kt : Bool) (ks : List Nd) (n : Int) (q : List UInt8) (t : Int) : Hp := [.box [.c (.sl 2 nl tt (Gr.repo l)), .c (.sl 3 kn kt (encL ks))], .box [V.i n], .box [.c (.str q)], .box [V.i t]]
theorem worldOk_len {l : List Gr.Cm} {ks : List Nd} (h : worldOk l ks = true) : ks.length = l.length := by
  simp only [worldOk, Bool.and_eq_true, decide_eq_true_eq] at h; exact h.1.2
theorem f100 (l : List Gr.Cm) (ks : List Nd) (nl : Option Bool) (tt : Bool) (kn : Option Bool) (kt : Bool) (n : Int) (q : List UInt8) (t : Int) (hs : Gr.smallB l = true) (hl : ks.length < 4294967296) (u : List (List V)) (b : Bool) (hw : Want ((backP l ks n q t).map encN) u b) :
    call E 100 [.yl 4, .ptr 0 0 0 0, .ptr 1 0 0 0, .ptr 2 0 0 0, .ptr 3 0 0 0] (boxW nl tt l kn kt ks n q t ++ [.yo u b]) = some ([], boxW nl tt l kn kt ks n q t ++ [.yo [] b]) := by
  have hct : (ctOf [(28, Gr.s28), (66, s66), (101, s101), (102, s102)]).ok E := ctOf_cons Gr.s28_ok (ctOf_cons s66_ok (ctOf_cons s101_ok (ctOf_cons s102_ok ctOf_nil)))
  refine call_of (E := E) (sh := sh) (ct := ctOf [(28, Gr.s28), (66, s66), (101, s101), (102, s102)]) (na := 5) (m := 5) hct rfl rfl rfl rfl rfl rfl ?_
  show p100.fd (p100.ft [.yl 4, .ptr 0 0 0 0, .ptr 1 0 0 0, .ptr 2 0 0 0, .ptr 3 0 0 0] [.box [.c (.sl 2 nl tt (Gr.repo l)), .c (.sl 3 kn kt (encL ks))], .box [V.i n], .box [.c (.str q)], .box [V.i t], .yo u b]) = some (.out [] [.box [.c (.sl 2 nl tt (Gr.repo l)), .c (.sl 3 kn kt (encL ks))], .box [V.i n], .box [.c (.str q)], .box [V.i t], .yo [] b])
  rw [t100]
  simp only [nd_ok, nd_lab, nd_rows, nd_kids, encL_length, isL_enc, decL_enc, wrap_hd, hd_pos, ld_br, ld_chk', ld_leaf, fd_br, fd_chk', fd_leaf, decide_true, decide_eq_true_eq, if_true, Int.toNat_natCast, Int.natCast_nonneg, Int.ofNat_lt, Int.ofNat_le, Bool.false_eq_true, if_false, bne_iff_ne, beq_iff_eq, ne_eq, not_true_eq_false, not_false_eq_true, Bool.not_eq_true', decide_eq_false_iff_not, reduceCtorEq, rows_length, pcs_length, er_ok, er_ok', ep_ok, ep_ok', dr_er, dp_ep, isRows_rows, isPcs_pcs, toRows_rows, toPcs_pcs, rows_take, rows_drop, pcs_take, pcs_drop, rows_append, pcs_append, ints_length, isInts_ints, toInts_ints, ei_i, ei_ok, mk_headD, ints_take, ints_drop, ints_append, ints_snoc, ints_snoc', List.take_length, Nat.zero_add, Nat.le_refl, er_a, er_b, er_k, er_n, er_s, er_v, ep_a, ep_b, ep_hk, ep_hn, ep_hs, ep_wk, ep_wn, ep_ws, Gr.isRepo_repo, Gr.toRepo_repo, Gr.repo_length, hs, hl]
  by_cases hok : worldOk l ks = true
  case neg =>
    have hc : ¬ checkW l ks = 0 := by unfold checkW; rw [if_neg hok]; decide
    rw [if_pos hc]
    have hb : backP l ks n q t = [] := by unfold backP; rw [if_neg hok]
    rw [hb] at hw
    rcases hw with ⟨h1, h2⟩ | ⟨h1, h2, h3⟩
    · rw [h2]; rfl
    · exact absurd (List.prefix_nil.1 h3) h2
  have hc : checkW l ks = 0 := by unfold checkW; rw [if_pos hok]
  rw [if_neg (by simp [hc])]
  have hb : backP l ks n q t = (Gr.firstG l n).map fun k => ⟨k, valAt ks q t k⟩ := by unfold backP; rw [if_pos hok]
  have hkl := worldOk_len hok
  have hmem : ∀ x ∈ Gr.firstG l n, 1 ≤ x ∧ x ≤ l.length := fun x hx => firstG_mem hx
  have hFl := firstG_len l n
  rw [hb] at hw
  generalize Gr.firstG l n = F at *
  obtain ⟨m, hu, hm0, hm1, hm2⟩ := want_take hw
  have hes : ((F.map fun k => (⟨k, valAt ks q t k⟩ : Rn)).map encN).length = F.length := by simp
  rw [hes] at hm0 hm1
  refine fd_post hct (by kernel_rfl) rfl (list_post (p := p100) hct (b := b100_0) F.length (fun k (r : List (List V)) => s100_0 nl tt (Gr.repo l) kn kt (encL ks) n q t r b none false (ints F) F.length k) (fun k r => r = u.drop k ∧ k ≤ m ∧ (b = true → k < m)) _ ?_ ?_ 0 (Nat.zero_le _) u ⟨rfl, Nat.zero_le _, fun h => hm2 h⟩)
  · rintro k _ hk ⟨rfl, h2, h3⟩
    have hkm : k < m := by
      cases b with
      | false => have := hm1 rfl; omega
      | true => exact h3 rfl
    have hd : u.drop k = encN ⟨F[k], valAt ks q t F[k]⟩ :: u.drop (k + 1) := by
      rw [hu, take_drop_cons hkm (by rw [hes]; exact hm0)]
      simp
    have hF := hmem F[k] (List.getElem_mem hk)
    have hj : (F[k] - 1).toNat < ks.length := by omega
    have w : IntKind.wrap .i64 (F[k] - 1) = F[k] - 1 := wrap_same (by omega) (by omega)
    have hg := getR_len ks[(F[k] - 1).toNat] q
    have hv : atP (getR ks[(F[k] - 1).toNat] q) t = valAt ks q t F[k] := by unfold valAt; rw [getD_at' hj]
    have hfk : F.getD k 0 = F[k] := by simp [List.getD_eq_getElem?_getD, hk]
    rw [t100_0, hd]
    simp only [nd_ok, nd_lab, nd_rows, nd_kids, encL_length, isL_enc, decL_enc, wrap_hd, hd_pos, ld_br, ld_chk', ld_leaf, fd_br, fd_chk', fd_leaf, decide_true, decide_eq_true_eq, if_true, Int.toNat_natCast, Int.natCast_nonneg, Int.ofNat_lt, Int.ofNat_le, Bool.false_eq_true, if_false, bne_iff_ne, beq_iff_eq, ne_eq, not_true_eq_false, not_false_eq_true, Bool.not_eq_true', decide_eq_false_iff_not, reduceCtorEq, rows_length, pcs_length, er_ok, er_ok', ep_ok, ep_ok', dr_er, dp_ep, isRows_rows, isPcs_pcs, toRows_rows, toPcs_pcs, rows_take, rows_drop, pcs_take, pcs_drop, rows_append, pcs_append, ints_length, isInts_ints, toInts_ints, ei_i, ei_ok, mk_headD, ints_take, ints_drop, ints_append, ints_snoc, ints_snoc', List.take_length, Nat.zero_add, Nat.le_refl, er_a, er_b, er_k, er_n, er_s, er_v, ep_a, ep_b, ep_hk, ep_hn, ep_hs, ep_wk, ep_wn, ep_ws, hk, ints_getD hk, hfk, w, show (0 : Int) ≤ F[k] - 1 by omega, hj, encL_getD hj, nd_node, show (getR ks[(F[k] - 1).toNat] q).length ≤ 4294967296 by omega, yoHd, hv, wrap_succ (show k < 9223372036854775807 by omega), List.tail_cons]
    rw [if_pos (eqb_encN F[k] (valAt ks q t F[k]).k (valAt ks q t F[k]).n (valAt ks q t F[k]).s)]
    have hul : u.length = m := by rw [hu, List.length_take, hes]; omega
    cases b with
    | false =>
      left
      refine ⟨u.drop (k + 1), ⟨rfl, by omega, fun h => by cases h⟩, ?_⟩
      simp [yoAns]
    | true =>
      by_cases hlast : k + 1 = m
      · right
        have hnil : u.drop (k + 1) = [] := List.drop_of_length_le (by omega)
        refine ⟨_, ?_, ?_, by rw [if_pos (by simp [yoAns, hnil])]⟩
        · simp
        · rw [k100_0x0, fd_leaf, List.tail_cons, hnil]
      · left
        have hne : (u.drop (k + 1)).isEmpty = false := by
          rw [List.isEmpty_eq_false_iff]
          intro h
          have := congrArg List.length h
          rw [List.length_drop] at this
          simp at this; omega
        refine ⟨u.drop (k + 1), ⟨rfl, by omega, fun _ => by omega⟩, ?_⟩
        simp [yoAns, hne]
  · rintro _ ⟨rfl, h2, h3⟩
    have hbf : b = false := by
      cases b with
      | false => rfl
      | true => have := h3 rfl; omega
    subst hbf
    have hnil : u.drop F.length = [] := List.drop_of_length_le (by rw [hu, List.length_take, hes]; omega)
    rw [t100_0, hnil]
    refine ⟨x100_0x1 nl tt (Gr.repo l) kn kt (encL ks) n q t [] false none false (ints F) F.length F.length, by simp, by rw [k100_0x1, fd_leaf], by simp only [nd_ok, nd_lab, nd_rows, nd_kids, encL_length, isL_enc, decL_enc, wrap_hd, hd_pos, ld_br, ld_chk', ld_leaf, fd_br, fd_chk', fd_leaf, decide_true, decide_eq_true_eq, if_true, Int.toNat_natCast, Int.natCast_nonneg, Int.ofNat_lt, Int.ofNat_le, Bool.false_eq_true, if_false, bne_iff_ne, beq_iff_eq, ne_eq, not_true_eq_false, not_false_eq_true, Bool.not_eq_true', decide_eq_false_iff_not, reduceCtorEq, rows_length, pcs_length, er_ok, er_ok', ep_ok, ep_ok', dr_er, dp_ep, isRows_rows, isPcs_pcs, toRows_rows, toPcs_pcs, rows_take, rows_drop, pcs_take, pcs_drop, rows_append, pcs_append, ints_length, isInts_ints, toInts_ints, ei_i, ei_ok, mk_headD, ints_take, ints_drop, ints_append, ints_snoc, ints_snoc', List.take_length, Nat.zero_add, Nat.le_refl, er_a, er_b, er_k, er_n, er_s, er_v, ep_a, ep_b, ep_hk, ep_hn, ep_hs, ep_wk, ep_wn, ep_ws, Int.lt_irrefl]⟩
end Go.Proofs.YtbilmkcdhodenaaDoor

end
