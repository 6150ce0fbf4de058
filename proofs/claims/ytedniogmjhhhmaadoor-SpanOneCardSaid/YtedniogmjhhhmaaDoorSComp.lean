/-
  Chapter 02 (span): slices.Compact at []int, told to EV.
-/
import Derived.Test.YtedniogmjhhhmaaDoorSSort
import Derived.Shelf.Slices.CompactI
import Derived.Test.YtedniogmjhhhmaaDoorEvM
set_option linter.all false
set_option linter.unusedSimpArgs false
set_option linter.unusedVariables false
section
namespace Go.Proofs.YtedniogmjhhhmaaDoor
open Go Go.Ev Go.Sort

theorem compact_le (zs : List Int) : (Lib.compact zs).length ≤ zs.length := by
  unfold Lib.compact Lib.compactUpTo
  rw [List.length_map]
  exact Nat.le_trans (List.length_filter_le _ _) (by simp)
/-- What stands there behind it. -/
def compL (zs : List Int) : List Int := Lib.compact zs ++ List.replicate (zs.length - (Lib.compact zs).length) 0
@[simp] theorem compL_len (zs : List Int) : (compL zs).length = zs.length := by
  have := compact_le zs
  simp [compL]; omega
def x55 : List V → Hp → Option (List V × Hp) := fun a h => match a, h with
  | [.buf 0 0 0 len], [.mem 1 0 xs] => if isInts xs = true ∧ len = xs.length ∧ xs.length < 4294967296 then some ([.buf 0 0 0 (Lib.compact (toInts xs)).length], [.mem 1 0 (ints (compL (toInts xs)))]) else none
  | _, _ => none

theorem enter55 : Enter Tryd.prog 55 := fun args w => by
  simp only [callFunc, Sem.run_bind, run_program, Result.andThen_ok, Tryd.func55]
  rfl

theorem sound55 {args vals : List V} {H H' : Hp} (h : x55 args H = some (vals, H')) : Enter Tryd.prog 55 ∧ Sound Tryd.prog Kw 55 args H vals H' := by
  unfold x55 at h
  split at h
  case h_2 => simp at h
  rename_i len xs
  split at h <;> simp only [Option.some.injEq, Prod.mk.injEq, reduceCtorEq] at h
  rename_i hc
  obtain ⟨hi, rfl, hlt⟩ := hc
  obtain ⟨rfl, rfl⟩ := h
  refine ⟨enter55, ?_⟩
  intro w A bl us hcx hH hargs
  obtain ⟨hl, hr⟩ := hargs
  match us, hl, hr with
  | [u], _, hr =>
    have hu := hr 0 _ u rfl rfl
    cases hu with
    | buf _ _ _ _ a l cap k1 k2 k3 =>
      obtain ⟨j1, rfl, ⟨j2, j3, j4⟩, j5⟩ := k3 1 xs rfl
      by_cases hne : xs = []
      · subst hne
        have e : ints (compL (toInts [])) = [] := by simp [toInts, compL, ints, Lib.compact, Lib.compactUpTo]
        have e2 : (Lib.compact (toInts [])).length = 0 := by simp [toInts, Lib.compact, Lib.compactUpTo]
        rw [e, e2]
        refine Calls.mono (Any.slices_Compact_int_empty Tryd.lays20 a cap w) ?_
        rintro e w' ⟨rfl, rfl⟩
        refine ⟨A, bl, [.slice a 0 cap], rfl, ⟨rfl, fun j x u hj hu => ?_⟩, hH, Le.refl _ _ _ _, Evo.refl _ _ _⟩
        cases j with
        | succ j => simp at hj
        | zero =>
          simp only [List.getElem?_cons_zero, Option.some.injEq] at hj hu
          subst hj hu
          exact .buf _ _ _ _ a 0 cap k1 k2 k3
      have hpos : 0 < xs.length := List.length_pos_iff.2 hne
      obtain ⟨b, d, n, h1, rfl, h3, h4⟩ := j5 (by omega)
      obtain ⟨o1, o2, o3⟩ := hH.obj 0 _ rfl
      obtain ⟨arr, t, g1, g2, g3⟩ := o3 b d h1
      have hx := ints_of hi
      generalize hz : toInts xs = zs at hx
      subst hx
      simp only [ints_length] at *
      have hcell : ∀ j, j < zs.length → arr[d + j]? = some (.int .i64 (zs[j]!)) := fun j hj => by
        obtain ⟨u, u1, u2⟩ := g3 j 0 (ei zs[j]) (.int .i64 zs[j]) (by simp [ints, hj]) rfl
        cases u2
        rw [show d + j = d + j * 1 + 0 by omega, u1]
        simp [hj]
      have hblt : b < w.heap.size := (hH.lt 0 b d ⟨_, rfl, rfl⟩ h1).1
      have hHolds : Holds (Value.int .i64) w b d zs.toArray := fun j hj => by
        have hj' : j < zs.length := by simpa using hj
        refine ⟨?_, by simp [World.frozen?, g1]⟩
        rw [cell_of_heap g1, hcell j hj']
        simp [hj']
      have hs := Any.slices_Compact_int Tryd.lays20 b d cap zs w hHolds (by omega) (by omega)
      have e0 : (⟨b, d + 0 * 1, none⟩ : Addr) = ⟨b, d, none⟩ := by simp
      rw [e0]
      refine Calls.mono hs ?_
      rintro e w' ⟨rfl, nn, hw'⟩
      replace hw' : w' = putRow (Value.int .i64) (Sort.ahead w nn) b d (compL zs).toArray := hw'
      have hw1 : (putRow (Value.int .i64) (Sort.ahead w nn) b d (compL zs).toArray).heap[b]? = some (.cells (putCells (Value.int .i64) d (compL zs).toArray arr) t (0, 0)) := by
        simp [putRow, mapBlock, Array.getElem?_modify, g1, onCells]
      have hk1 : ∀ c, c ≠ b → (putRow (Value.int .i64) (Sort.ahead w nn) b d (compL zs).toArray).heap[c]? = w.heap[c]? := fun c hc => by
        simp [putRow, mapBlock, Array.getElem?_modify, Ne.symm hc]
      have hsz1 : (putRow (Value.int .i64) (Sort.ahead w nn) b d (compL zs).toArray).heap.size = w.heap.size := by simp
      generalize hw2 : putRow (Value.int .i64) (Sort.ahead w nn) b d (compL zs).toArray = W2 at hw1 hk1 hsz1 hw'
      subst hw'
      have hos2 : w'.os = w.os ∧ w'.tape = w.tape ∧ w'.output = w.output := by subst hw2; exact ⟨rfl, rfl, rfl⟩
      have hps : (putCells (Value.int .i64) d (compL zs).toArray arr).size = arr.size := by simp [putCells]
      have hle := le_set (o' := O.mem 1 0 (ints (compL zs))) hH (i0 := 0) rfl rfl h1 g1 hps hw1 hk1 (fun z e xs' he => by
        simp only [O.mem.injEq] at he
        obtain ⟨rfl, rfl, rfl⟩ := he
        exact ⟨0, ints zs, rfl, Nat.le_refl _, fun _ => by simp⟩) (fun cs he => by cases he)
      have hrep := rep_set hH (i0 := 0) rfl rfl h1 hle hk1 hsz1 (by
        refine ⟨fun cs hcs => ?_, fun hn => (by rw [h1] at hn; cases hn), fun b' d' hb' => ?_⟩
        · simp only [ints, List.mem_map] at hcs
          obtain ⟨x, _, rfl⟩ := hcs
          rfl
        · rw [h1] at hb'
          simp only [Option.some.injEq, Prod.mk.injEq] at hb'
          obtain ⟨rfl, rfl⟩ := hb'
          refine ⟨_, t, hw1, by rw [hps]; simpa using g2, fun k j cs x hk hj => ?_⟩
          have hk' : k < (compL zs).length := by have := (List.getElem?_eq_some_iff.1 hk).1; simpa using this
          simp only [ints, List.getElem?_map, List.getElem?_eq_getElem hk', Option.map_some, Option.some.injEq] at hk
          subst hk
          cases j with
          | succ j => simp [ei] at hj
          | zero =>
            simp only [ei, List.getElem?_cons_zero, Option.some.injEq] at hj
            subst hj
            have hk2 : k < zs.length := by simpa using hk'
            have hlt2 : d + k * 1 + 0 < arr.size := by simp at g2; omega
            refine ⟨.int .i64 (compL zs)[k], ?_, .int _ _⟩
            simp only [putCells, Array.getElem?_mapIdx, Array.getElem?_eq_getElem hlt2, Option.map_some, Option.some.injEq]
            rw [if_pos (by simp; omega)]
            simp only [show d + k * 1 + 0 - d = k by omega]
            simp [hk2]) hos2
      have hset : ([O.mem 1 0 (ints zs)] : Hp).set 0 (O.mem 1 0 (ints (compL zs))) = [O.mem 1 0 (ints (compL zs))] := rfl
      rw [hset] at hrep hle
      have hcl := compact_le zs
      refine ⟨A, bl, [_], rfl, ⟨rfl, fun j x u hj hu => ?_⟩, hrep, hle, ?_⟩
      · cases j with
        | succ j => simp at hj
        | zero =>
          simp only [List.getElem?_cons_zero, Option.some.injEq] at hj hu
          subst hj hu
          refine .buf _ _ _ _ _ _ cap (by simp) (fun z e xs he => ?_) (fun z xs he => ?_)
          · simp at he; omega
          · simp only [List.getElem?_cons_zero, Option.some.injEq, O.mem.injEq] at he
            obtain ⟨rfl, _, rfl⟩ := he
            refine ⟨by simp; omega, rfl, ⟨by omega, fun _ a0 ha => ?_, fun h => by cases h⟩, fun hcap => ?_⟩
            · simp only [Option.some.injEq] at ha; subst ha; rfl
            · have hle2 := hle.row 0 1 0 _ _ b d n rfl rfl h1 h3
              exact ⟨b, d, n, h1, by simp, hle2, by omega⟩
      · exact ⟨hos2.1, hos2.2.1, hos2.2.2, by omega, fun c hc hL => hk1 c fun e => hL (.inl ⟨0, d, ⟨_, rfl, rfl⟩, e ▸ h1⟩), fun c hc => .inl (liv_set (i0 := 0) (o := .mem 1 0 (ints zs)) rfl rfl hc), fun c hc => .inl hc⟩
end Go.Proofs.YtedniogmjhhhmaaDoor

end

/-
  Chapter 02 (span): the environment.
-/
section
namespace Go.Proofs.YtedniogmjhhhmaaDoor
open Go Go.Ev

def timesOf (l : List Row) : List Int := l.flatMap fun r => [r.a, r.b]
/-- The times at which one of two lists changes. -/
def bnds (a b : List Row) : List Int := Lib.compact (sortI (timesOf a ++ timesOf b))
def pairsOf : List Int → List (Int × Int)
  | x :: y :: r => (x, y) :: pairsOf (y :: r)
  | _ => []
def encP (p : Int × Int) : List V := [V.i p.1, V.i p.2]
def sq : FuncId → List V → Hp → Option (List (List V)) := fun g a h => match g with
  | 53 => match a, h with
    | [_, .ptr 0 0 0 0, .ptr 1 0 0 0], [.box [.c (.sl 5 _ _ xs)], .box [.c (.sl 5 _ _ ys)]] => some ((pairsOf (bnds (toRows xs) (toRows ys))).map encP)
    | _, _ => none
  | _ => none
def xt2 : FuncId → Option (List V → Hp → Option (List V × Hp)) := fun g => match g with
  | 50 => some x50
  | 54 => some x54
  | 55 => some x55
  | _ => none
noncomputable def E2 : Env := E0 xt2 sq
theorem envOk2 : EnvOk Tryd.prog Kw E2 := env_ok fun g f args H vals H' h1 h2 => by
  unfold xt2 at h1
  split at h1 <;> simp only [Option.some.injEq, reduceCtorEq] at h1
  · subst h1; exact sound50 h2
  · subst h1; exact sound54 h2
  · subst h1; exact sound55 h2
theorem drawOk : DrawOk Tryd.prog Kw := draw_ok mixedOk
noncomputable def x33 : List V → Hp → Option (List V × Hp) := xbump (call E2 33)
noncomputable def xt : FuncId → Option (List V → Hp → Option (List V × Hp)) := fun g => match g with
  | 50 => some x50
  | 54 => some x54
  | 55 => some x55
  | 33 => some x33
  | _ => none
noncomputable def E : Env := E0 xt sq
theorem envOk : EnvOk Tryd.prog Kw E := env_ok fun g f args H vals H' h1 h2 => by
  unfold xt at h1
  split at h1 <;> simp only [Option.some.injEq, reduceCtorEq] at h1
  · subst h1; exact sound50 h2
  · subst h1; exact sound54 h2
  · subst h1; exact sound55 h2
  · subst h1; exact xbump_sound (fun args H vals H' h => call_sound drawOk envOk2 33 args H vals H' h) h2

def s50 : CSpec := fun a h => match a, h with
  | [.c (.str s)], [] => some ([decide (s.length < 4294967296)], [V.i (runesL s)], [])
  | _, _ => none
theorem s50_ok : CSpecOk E 50 s50 := fun a h cs vals h' he hc => by
  unfold s50 at he
  split at he <;> simp only [Option.some.injEq, Prod.mk.injEq, reduceCtorEq] at he
  rename_i s
  obtain ⟨rfl, rfl, rfl⟩ := he
  simp only [allT, Bool.and_true, decide_eq_true_eq] at hc
  exact call_ext (f := x50) rfl (by simp only [x50, if_pos hc])
def s54 : CSpec := fun a h => match a, h with
  | [.buf 0 0 0 len], [.mem 1 0 xs] => some ([isInts xs, decide (len = xs.length), decide (xs.length < 4294967296)], [], [.mem 1 0 (ints (sortI (toInts xs)))])
  | _, _ => none
theorem s54_ok : CSpecOk E 54 s54 := fun a h cs vals h' he hc => by
  unfold s54 at he
  split at he <;> simp only [Option.some.injEq, Prod.mk.injEq, reduceCtorEq] at he
  rename_i len xs
  obtain ⟨rfl, rfl, rfl⟩ := he
  simp only [allT, Bool.and_true, Bool.and_eq_true, decide_eq_true_eq] at hc
  exact call_ext (f := x54) rfl (by simp only [x54, if_pos hc])
def s55 : CSpec := fun a h => match a, h with
  | [.buf 0 0 0 len], [.mem 1 0 xs] => some ([isInts xs, decide (len = xs.length), decide (xs.length < 4294967296)], [.buf 0 0 0 (Lib.compact (toInts xs)).length], [.mem 1 0 (ints (compL (toInts xs)))])
  | _, _ => none
theorem s55_ok : CSpecOk E 55 s55 := fun a h cs vals h' he hc => by
  unfold s55 at he
  split at he <;> simp only [Option.some.injEq, Prod.mk.injEq, reduceCtorEq] at he
  rename_i len xs
  obtain ⟨rfl, rfl, rfl⟩ := he
  simp only [allT, Bool.and_true, Bool.and_eq_true, decide_eq_true_eq] at hc
  exact call_ext (f := x55) rfl (by simp only [x55, if_pos hc])
end Go.Proofs.YtedniogmjhhhmaaDoor

end
