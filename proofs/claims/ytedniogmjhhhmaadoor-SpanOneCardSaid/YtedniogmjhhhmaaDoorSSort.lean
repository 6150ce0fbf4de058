/-
  Chapter 02 (span): slices.Sort at []int, told to EV.
-/
import Derived.Test.YtedniogmjhhhmaaDoorSRun2
import Derived.Test.YtedniogmjhhhmaaDoorEnvG02
import Derived.Shelf.Sort.Plain
set_option linter.all false
set_option linter.unusedSimpArgs false
set_option linter.unusedVariables false
section
namespace Go.Proofs.YtedniogmjhhhmaaDoor
open Go Go.Ev Go.Sort

def sortI (l : List Int) : List Int := l.mergeSort fun x y => decide (x ≤ y)
@[simp] theorem sortI_len (l : List Int) : (sortI l).length = l.length := by simp [sortI]
def x54 : List V → Hp → Option (List V × Hp) := fun a h => match a, h with
  | [.buf 0 0 0 len], [.mem 1 0 xs] => if isInts xs = true ∧ len = xs.length ∧ xs.length < 4294967296 then some ([], [.mem 1 0 (ints (sortI (toInts xs)))]) else none
  | _, _ => none

noncomputable def E1 : Env := E0 (fun _ => none) (fun _ _ _ => none)
theorem mixedOk : Tryd.prog.follows .mixedOrders = true := by kernel_rfl
theorem empty54 : callN E1 40 54 [.buf 0 0 0 0] [.mem 1 0 []] = some ([], [.mem 1 0 []]) := by kernel_rfl

theorem enter54 : Enter Tryd.prog 54 := fun args w => by
  simp only [callFunc, Sem.run_bind, run_program, Result.andThen_ok, Tryd.func54]
  rfl

theorem sound54 {args vals : List V} {H H' : Hp} (h : x54 args H = some (vals, H')) : Enter Tryd.prog 54 ∧ Sound Tryd.prog Kw 54 args H vals H' := by
  unfold x54 at h
  split at h
  case h_2 => simp at h
  rename_i len xs
  split at h <;> simp only [Option.some.injEq, Prod.mk.injEq, reduceCtorEq] at h
  rename_i hc
  obtain ⟨hi, rfl, hlt⟩ := hc
  obtain ⟨rfl, rfl⟩ := h
  refine ⟨enter54, ?_⟩
  by_cases hne : xs = []
  · subst hne
    have e : ints (sortI (toInts [])) = [] := by simp [toInts, sortI, ints]
    rw [e]
    exact (callN_sound (K := Kw) (draw_ok mixedOk) (env_ok fun g f args H vals H' h => by cases h) 40 _ _ _ _ _ empty54).2
  intro w A bl us hcx hH hargs
  obtain ⟨hl, hr⟩ := hargs
  match us, hl, hr with
  | [u], _, hr =>
    have hu := hr 0 _ u rfl rfl
    cases hu with
    | buf _ _ _ _ a l cap k1 k2 k3 =>
      obtain ⟨j1, rfl, ⟨j2, j3, j4⟩, j5⟩ := k3 1 xs rfl
      have hpos : 0 < xs.length := List.length_pos_iff.2 hne
      obtain ⟨b, d, n, h1, rfl, h3, h4⟩ := j5 (by omega)
      obtain ⟨o1, o2, o3⟩ := hH.obj 0 _ rfl
      obtain ⟨arr, t, g1, g2, g3⟩ := o3 b d h1
      have hx := ints_of hi
      generalize hz : toInts xs = zs at hx
      subst hx
      simp only [ints_length] at *
      have hcell : ∀ j, j < zs.length → arr[d + j]? = some (.int .i64 (zs[j]!)) := fun j hj => by
        obtain ⟨u, u1, u2⟩ := g3 j 0 (ei zs[j]) (.int .i64 zs[j]) (by simp [ints, hj]) rfl
        cases u2
        rw [show d + j = d + j * 1 + 0 by omega, u1]
        simp [hj]
      have hblt : b < w.heap.size := (hH.lt 0 b d ⟨_, rfl, rfl⟩ h1).1
      have hHolds : Holds (Value.int .i64) w b d zs.toArray := fun j hj => by
        have hj' : j < zs.length := by simpa using hj
        refine ⟨?_, by simp [World.frozen?, g1]⟩
        rw [cell_of_heap g1, hcell j hj']
        simp [hj']
      have hs := Any.slices_Sort_int Tryd.lays189 b d cap zs w hHolds hblt (by omega)
      have e0 : (⟨b, d + 0 * 1, none⟩ : Addr) = ⟨b, d, none⟩ := by simp
      rw [e0]
      refine Calls.mono hs ?_
      rintro e w' ⟨rfl, nn, os, hw'⟩
      replace hw' : w' = Go.Sort.grow (putRow (Value.int .i64) (Sort.ahead w nn) b d (sortI zs).toArray) os := hw'
      -- the block's cells
      have hw1 : (putRow (Value.int .i64) (Sort.ahead w nn) b d (sortI zs).toArray).heap[b]? = some (.cells (putCells (Value.int .i64) d (sortI zs).toArray arr) t (0, 0)) := by
        simp [putRow, mapBlock, Array.getElem?_modify, g1, onCells]
      have hk1 : ∀ c, c ≠ b → (putRow (Value.int .i64) (Sort.ahead w nn) b d (sortI zs).toArray).heap[c]? = w.heap[c]? := fun c hc => by
        simp [putRow, mapBlock, Array.getElem?_modify, Ne.symm hc]
      have hsz1 : (putRow (Value.int .i64) (Sort.ahead w nn) b d (sortI zs).toArray).heap.size = w.heap.size := by simp
      generalize hw2 : putRow (Value.int .i64) (Sort.ahead w nn) b d (sortI zs).toArray = W2 at hw1 hk1 hsz1 hw'
      subst hw'
      have hos2 : W2.os = w.os ∧ W2.tape = w.tape ∧ W2.output = w.output := by subst hw2; exact ⟨rfl, rfl, rfl⟩
      have hps : (putCells (Value.int .i64) d (sortI zs).toArray arr).size = arr.size := by simp [putCells]
      have hle := le_set (o' := O.mem 1 0 (ints (sortI zs))) hH (i0 := 0) rfl rfl h1 g1 hps hw1 hk1 (fun z e xs' he => by
        simp only [O.mem.injEq] at he
        obtain ⟨rfl, rfl, rfl⟩ := he
        exact ⟨0, ints zs, rfl, Nat.le_refl _, fun _ => by simp⟩) (fun cs he => by cases he)
      have hrep := rep_set hH (i0 := 0) rfl rfl h1 hle hk1 hsz1 (by
        refine ⟨fun cs hcs => ?_, fun hn => (by rw [h1] at hn; cases hn), fun b' d' hb' => ?_⟩
        · simp only [ints, List.mem_map] at hcs
          obtain ⟨x, _, rfl⟩ := hcs
          rfl
        · rw [h1] at hb'
          simp only [Option.some.injEq, Prod.mk.injEq] at hb'
          obtain ⟨rfl, rfl⟩ := hb'
          refine ⟨_, t, hw1, by rw [hps]; simpa using g2, fun k j cs x hk hj => ?_⟩
          have hk' : k < (sortI zs).length := by have := (List.getElem?_eq_some_iff.1 hk).1; simpa using this
          simp only [ints, List.getElem?_map, List.getElem?_eq_getElem hk', Option.map_some, Option.some.injEq] at hk
          subst hk
          cases j with
          | succ j => simp [ei] at hj
          | zero =>
            simp only [ei, List.getElem?_cons_zero, Option.some.injEq] at hj
            subst hj
            have hk2 : k < zs.length := by simpa using hk'
            have hlt2 : d + k * 1 + 0 < arr.size := by simp at g2; omega
            refine ⟨.int .i64 (sortI zs)[k], ?_, .int _ _⟩
            simp only [putCells, Array.getElem?_mapIdx, Array.getElem?_eq_getElem hlt2, Option.map_some, Option.some.injEq]
            rw [if_pos (by simp; omega)]
            simp only [show d + k * 1 + 0 - d = k by omega]
            simp [hk2]) hos2
      have g : Grow W2 (Go.Sort.grow W2 os) := ⟨rfl, rfl, rfl, by simp, fun c hc => heap_grow_old W2 os hc⟩
      have hset : ([O.mem 1 0 (ints zs)] : Hp).set 0 (O.mem 1 0 (ints (sortI zs))) = [O.mem 1 0 (ints (sortI zs))] := rfl
      rw [hset] at hrep hle
      obtain ⟨q1, q2⟩ := Ev.grow hrep g (N := fun _ => False) (fun b hb => hb.elim)
      refine ⟨_, bl, [], rfl, ⟨rfl, fun j x u hj => by simp at hj⟩, q1, hle.trans q2, ?_⟩
      refine Evo.trans (A1 := A) (L1 := Liv bl [O.mem 1 0 (ints (sortI zs))]) ?_ (g.evo (fun b hb => .inl hb) (fun b hb => hb.elim .inl False.elim))
      exact ⟨hos2.1, hos2.2.1, hos2.2.2, by omega, fun c hc hL => hk1 c fun e => hL (.inl ⟨0, d, ⟨_, rfl, rfl⟩, e ▸ h1⟩), fun c hc => .inl (liv_set (i0 := 0) (o := .mem 1 0 (ints zs)) rfl rfl hc), fun c hc => .inl hc⟩
end Go.Proofs.YtedniogmjhhhmaaDoor

end

/-
  Chapter 02 (span): values, rows, pieces as cells; what the first functions compute, in plain Lean.
-/
section
namespace Go.Proofs.YtedniogmjhhhmaaDoor
open Go Go.Ev

/-- A value: kind, number, text. -/
structure Val where
  k : Int
  n : Int
  s : List UInt8
  deriving DecidableEq, Inhabited
structure Row where
  a : Int
  b : Int
  v : Val
  deriving DecidableEq, Inhabited
structure Piece where
  a : Int
  b : Int
  h : Val
  w : Val
  deriving DecidableEq, Inhabited
def Val.none : Val := ⟨0, 0, []⟩

def ev (v : Val) : List C := [.int .i64 v.k, .int .i64 v.n, .str v.s]
def er (r : Row) : List C := [.int .i64 r.a, .int .i64 r.b, .int .i64 r.v.k, .int .i64 r.v.n, .str r.v.s]
def ep (p : Piece) : List C := [.int .i64 p.a, .int .i64 p.b, .int .i64 p.h.k, .int .i64 p.h.n, .str p.h.s, .int .i64 p.w.k, .int .i64 p.w.n, .str p.w.s]
@[reducible] def VV (v : Val) : V := .agg [V.i v.k, V.i v.n, .c (.str v.s)]
@[reducible] def VR (r : Row) : V := .agg [V.i r.a, V.i r.b, V.i r.v.k, V.i r.v.n, .c (.str r.v.s)]
@[reducible] def VP (p : Piece) : V := .agg [V.i p.a, V.i p.b, V.i p.h.k, V.i p.h.n, .c (.str p.h.s), V.i p.w.k, V.i p.w.n, .c (.str p.w.s)]
def skR : List Sk := [.int .i64, .int .i64, .int .i64, .int .i64, .str]
def skP : List Sk := [.int .i64, .int .i64, .int .i64, .int .i64, .str, .int .i64, .int .i64, .str]
def dr (c : List C) : Row := ⟨(c.headD .pnil).i, (c.tail.headD .pnil).i, ⟨(c.tail.tail.headD .pnil).i, (c.tail.tail.tail.headD .pnil).i, (c.tail.tail.tail.tail.headD .pnil).st⟩⟩
def dp (c : List C) : Piece := ⟨(c.headD .pnil).i, (c.tail.headD .pnil).i, ⟨(c.tail.tail.headD .pnil).i, (c.tail.tail.tail.headD .pnil).i, (c.tail.tail.tail.tail.headD .pnil).st⟩,
  ⟨(c.tail.tail.tail.tail.tail.headD .pnil).i, (c.tail.tail.tail.tail.tail.tail.headD .pnil).i, (c.tail.tail.tail.tail.tail.tail.tail.headD .pnil).st⟩⟩
def rows (l : List Row) : List (List C) := l.map er
def pcs (l : List Piece) : List (List C) := l.map ep
def toRows (xs : List (List C)) : List Row := xs.map dr
def toPcs (xs : List (List C)) : List Piece := xs.map dp
def isRows (xs : List (List C)) : Bool := xs.all fun c => shOk skR c
def isPcs (xs : List (List C)) : Bool := xs.all fun c => shOk skP c
theorem er_of {c : List C} (h : shOk skR c = true) : c = er (dr c) := by
  conv => lhs; rw [← shape_ok h]
  rfl
theorem ep_of {c : List C} (h : shOk skP c = true) : c = ep (dp c) := by
  conv => lhs; rw [← shape_ok h]
  rfl
theorem rows_of {xs : List (List C)} (h : isRows xs = true) : xs = rows (toRows xs) := by
  induction xs with
  | nil => rfl
  | cons c r ih =>
    simp only [isRows, List.all_cons, Bool.and_eq_true] at h
    have h2 := ih h.2
    unfold rows toRows at h2 ⊢
    simp only [List.map_cons]
    rw [← h2, ← er_of h.1]
theorem pcs_of {xs : List (List C)} (h : isPcs xs = true) : xs = pcs (toPcs xs) := by
  induction xs with
  | nil => rfl
  | cons c r ih =>
    simp only [isPcs, List.all_cons, Bool.and_eq_true] at h
    have h2 := ih h.2
    unfold pcs toPcs at h2 ⊢
    simp only [List.map_cons]
    rw [← h2, ← ep_of h.1]
@[simp] theorem dr_er (r : Row) : dr (er r) = r := rfl
@[simp] theorem dp_ep (p : Piece) : dp (ep p) = p := rfl
@[simp] theorem er_ok (r : Row) : shOk skR (er r) = true := rfl
@[simp] theorem ep_ok (p : Piece) : shOk skP (ep p) = true := rfl
@[simp] theorem toRows_rows (l : List Row) : toRows (rows l) = l := by simp [toRows, rows, Function.comp_def]
@[simp] theorem toPcs_pcs (l : List Piece) : toPcs (pcs l) = l := by simp [toPcs, pcs, Function.comp_def]
@[simp] theorem isRows_rows (l : List Row) : isRows (rows l) = true := by simp [isRows, rows]
@[simp] theorem isPcs_pcs (l : List Piece) : isPcs (pcs l) = true := by simp [isPcs, pcs]
@[simp] theorem rows_length (l : List Row) : (rows l).length = l.length := by simp [rows]
@[simp] theorem pcs_length (l : List Piece) : (pcs l).length = l.length := by simp [pcs]
theorem rows_getD {l : List Row} {i : Nat} (h : i < l.length) : (rows l).getD i [] = er l[i] := by simp [rows, List.getD_eq_getElem?_getD, h]
theorem pcs_getD {l : List Piece} {i : Nat} (h : i < l.length) : (pcs l).getD i [] = ep l[i] := by simp [pcs, List.getD_eq_getElem?_getD, h]
@[simp] theorem rows_take (l : List Row) (n : Nat) : (rows l).take n = rows (l.take n) := by simp [rows, List.map_take]
@[simp] theorem rows_drop (l : List Row) (n : Nat) : (rows l).drop n = rows (l.drop n) := by simp [rows, List.map_drop]
@[simp] theorem rows_append (l m : List Row) : rows l ++ rows m = rows (l ++ m) := by simp [rows]
@[simp] theorem pcs_take (l : List Piece) (n : Nat) : (pcs l).take n = pcs (l.take n) := by simp [pcs, List.map_take]
@[simp] theorem pcs_drop (l : List Piece) (n : Nat) : (pcs l).drop n = pcs (l.drop n) := by simp [pcs, List.map_drop]
@[simp] theorem pcs_append (l m : List Piece) : pcs l ++ pcs m = pcs (l ++ m) := by simp [pcs]

/-! ## what the functions compute -/
/-- The text has 40 bytes at most and is UTF-8. -/
def checkV (v : Val) : Int := if v.k = 1 then (if v.s = [] then 0 else 2) else if v.k = 2 then (if v.n = 0 ∧ v.s.length ≤ 40 ∧ 0 ≤ runesL v.s then 0 else 2) else 2
def isSpan (a b : Int) : Bool := decide (0 ≤ a) && decide (a < b) && decide (b ≤ 1099511627776)
def okFrom : Option Row → List Row → Bool
  | _, [] => true
  | p, x :: r => isSpan x.a x.b && decide (checkV x.v = 0) && (match p with | none => true | some w => !(decide (x.a < w.b) || (decide (x.a = w.b) && decide (x.v = w.v)))) && okFrom (some x) r
def right (l : List Row) : Bool := decide (l.length ≤ 64) && okFrom none l
def checkR (l : List Row) : Int := if right l = true then 0 else 2
/-- What rows have at a time. -/
def had : List Row → Int → Val
  | [], _ => Val.none
  | x :: r, t => if x.b ≤ t then had r t else if x.a ≤ t then x.v else Val.none
end Go.Proofs.YtedniogmjhhhmaaDoor

end
