/-
  The environment of this seat for EV, written by a program: its types, its functions, the slots that live on. Nothing here is trusted: 'env_ok' says that the types and functions are the program's.
-/
import Derived.Test.YtkdinelcmanfcaaEvU
import Derived.Test.YtkdinelcmanfcaaProg
import Derived.KernelRfl
set_option linter.unusedSimpArgs false
set_option linter.unusedVariables false
namespace Go.Proofs.Ytkdinelcmanfcaa
open Go.Ev

def T : TypeId → Option Ty := fun t => match t with
  | 3 => some ⟨.int .i64, 1, 8, [.int], [.int .i64 0], []⟩
  | 4 => some ⟨.bool, 1, 1, [.bool], [.bool false], []⟩
  | 22 => some ⟨.slice 29, 1, 24, [], [.sl 2 (some true) true []], []⟩
  | 27 => some ⟨.slice 3, 1, 24, [], [.sl 1 (some true) true []], []⟩
  | 29 => some ⟨.struct [(0, 1, false), (1, 1, false)], 2, 32, [], [.sl 1 (some true) true [], .int .i64 0], []⟩
  | 37 => some ⟨.int .i64, 1, 8, [.int], [.int .i64 0], []⟩
  | 51 => some ⟨.array 501 3, 501, 4008, [], [], [.int .i64 0]⟩
  | 56 => some ⟨.other, 1, 8, [], [.fnil], []⟩
  | 62 => some ⟨.ptr 51, 1, 8, [], [.pnil], []⟩
  | _ => none

theorem ty3 : tyOf Try.prog 3 = some ⟨.int .i64, 1, 8, [.int], [.int .i64 0], []⟩ := by kernel_rfl
theorem ty4 : tyOf Try.prog 4 = some ⟨.bool, 1, 1, [.bool], [.bool false], []⟩ := by kernel_rfl
theorem ty22 : tyOf Try.prog 22 = some ⟨.slice 29, 1, 24, [], [.sl 2 (some true) true []], []⟩ := by kernel_rfl
theorem ty27 : tyOf Try.prog 27 = some ⟨.slice 3, 1, 24, [], [.sl 1 (some true) true []], []⟩ := by kernel_rfl
theorem ty29 : tyOf Try.prog 29 = some ⟨.struct [(0, 1, false), (1, 1, false)], 2, 32, [], [.sl 1 (some true) true [], .int .i64 0], []⟩ := by kernel_rfl
theorem ty37 : tyOf Try.prog 37 = some ⟨.int .i64, 1, 8, [.int], [.int .i64 0], []⟩ := by kernel_rfl
theorem ty51 : tyOf Try.prog 51 = some ⟨.array 501 3, 501, 4008, [], [], [.int .i64 0]⟩ := by kernel_rfl
theorem ty56 : tyOf Try.prog 56 = some ⟨.other, 1, 8, [], [.fnil], []⟩ := by kernel_rfl
theorem ty62 : tyOf Try.prog 62 = some ⟨.ptr 51, 1, 8, [], [.pnil], []⟩ := by kernel_rfl
theorem T_ok (t : TypeId) (y : Ty) (h : T t = some y) : tyOf Try.prog t = some y := by
  unfold T at h
  split at h <;> simp only [Option.some.injEq, reduceCtorEq] at h <;> subst h
  · exact ty3
  · exact ty4
  · exact ty22
  · exact ty27
  · exact ty29
  · exact ty37
  · exact ty51
  · exact ty56
  · exact ty62

noncomputable def B : FuncId → Option Func := fun g => match g with
  | 3 => some Try.f3
  | 4 => some Try.f4
  | 5 => some Try.f5
  | 6 => some Try.f6
  | 7 => some Try.f7
  | 8 => some Try.f8
  | 9 => some Try.f9
  | 10 => some Try.f10
  | 11 => some Try.f11
  | 12 => some Try.f12
  | 13 => some Try.f13
  | 14 => some Try.f14
  | 15 => some Try.f15
  | 16 => some Try.f16
  | 17 => some Try.f17
  | 18 => some Try.f18
  | 19 => some Try.f19
  | 20 => some Try.f20
  | 21 => some Try.f21
  | 22 => some Try.f22
  | 23 => some Try.f23
  | 24 => some Try.f24
  | 25 => some Try.f25
  | 26 => some Try.f26
  | 27 => some Try.f27
  | 28 => some Try.f28
  | 29 => some Try.f29
  | 30 => some Try.f30
  | 31 => some Try.f31
  | 32 => some Try.f32
  | 33 => some Try.f33
  | 34 => some Try.f34
  | 35 => some Try.f35
  | 36 => some Try.f36
  | 37 => some Try.f37
  | 38 => some Try.f38
  | 39 => some Try.f39
  | 40 => some Try.f40
  | 41 => some Try.f41
  | 42 => some Try.f42
  | 43 => some Try.f43
  | 44 => some Try.f44
  | 45 => some Try.f45
  | 46 => some Try.f46
  | 47 => some Try.f47
  | 48 => some Try.f48
  | 49 => some Try.f49
  | 50 => some Try.f50
  | 51 => some Try.f51
  | _ => none
theorem B_ok (g : FuncId) (fn : Func) (h : B g = some fn) : Try.prog.funcs[g]? = some fn := by
  unfold B at h
  split at h <;> simp only [Option.some.injEq, reduceCtorEq] at h <;> subst h
  · exact Try.func3
  · exact Try.func4
  · exact Try.func5
  · exact Try.func6
  · exact Try.func7
  · exact Try.func8
  · exact Try.func9
  · exact Try.func10
  · exact Try.func11
  · exact Try.func12
  · exact Try.func13
  · exact Try.func14
  · exact Try.func15
  · exact Try.func16
  · exact Try.func17
  · exact Try.func18
  · exact Try.func19
  · exact Try.func20
  · exact Try.func21
  · exact Try.func22
  · exact Try.func23
  · exact Try.func24
  · exact Try.func25
  · exact Try.func26
  · exact Try.func27
  · exact Try.func28
  · exact Try.func29
  · exact Try.func30
  · exact Try.func31
  · exact Try.func32
  · exact Try.func33
  · exact Try.func34
  · exact Try.func35
  · exact Try.func36
  · exact Try.func37
  · exact Try.func38
  · exact Try.func39
  · exact Try.func40
  · exact Try.func41
  · exact Try.func42
  · exact Try.func43
  · exact Try.func44
  · exact Try.func45
  · exact Try.func46
  · exact Try.func47
  · exact Try.func48
  · exact Try.func49
  · exact Try.func50
  · exact Try.func51
theorem B_enter (g : FuncId) (fn : Func) (h : B g = some fn) (_ : fn.body.isSome = true) : (fn.name == "runtime.NumGoroutine") = false := by
  unfold B at h
  split at h <;> simp only [Option.some.injEq, reduceCtorEq] at h <;> subst h <;> kernel_rfl

def lv : FuncId → Nat → Option (List Nat) := fun g r => match g with
  | 3 => (match r with | 0 => some [0, 1, 2, 3] | 1 => some [0, 1, 2, 3, 31] | 2 => some [8] | 3 => some [0, 1, 2, 3, 9, 10] | 4 => some [0, 1, 2, 3, 9, 10, 75] | 5 => some [8] | 6 => some [0, 1, 100] | 7 => some [8] | 8 => some [8] | _ => none)
  | 4 => (match r with | 0 => some [0, 1, 2, 3] | 1 => some [0, 1, 2, 3, 33] | 2 => some [8] | 3 => some [0, 1, 2, 3, 9] | 4 => some [0, 1, 2, 3, 9, 58] | 5 => some [8] | 6 => some [0, 1, 2, 3, 9, 10] | 7 => some [0, 1, 2, 3, 9, 10, 11] | 8 => some [0, 1, 2, 3, 9, 10, 11, 62] | 9 => some [0, 1, 2, 3, 9, 10, 11] | 10 => some [0, 1, 2, 3, 9, 10, 11, 82] | 11 => some [8] | 12 => some [0, 1, 2, 3, 9, 10, 11, 12] | 13 => some [0, 1, 2, 3, 9, 10, 11, 12, 86] | 14 => some [0, 1, 2, 3, 9, 10, 11, 12] | 15 => some [0, 1, 2, 3, 9, 10, 11, 12, 103] | 16 => some [8] | 17 => some [0, 1, 2, 3, 9, 10, 11] | 18 => some [8] | _ => none)
  | 5 => (match r with | 0 => some [0, 1, 2, 3] | 1 => some [0, 1, 2, 3, 11] | 2 => some [8] | 3 => some [8] | _ => none)
  | 6 => (match r with | 0 => some [0, 1, 2, 3, 4] | 1 => some [0, 1, 2, 3, 4, 29] | 2 => some [10] | 3 => some [0, 1, 2, 3, 4, 11] | 4 => some [0, 1, 2, 3, 4, 11, 12] | 5 => some [0, 1, 2, 3, 4, 11, 12, 37] | 6 => some [0, 1, 2, 3, 4, 11, 12] | 7 => some [0, 1, 2, 3, 4, 11, 12, 104] | 8 => some [10] | 9 => some [0, 1, 2, 11, 131] | 10 => some [10] | 11 => some [0, 1, 2, 11, 152] | 12 => some [10] | 13 => some [0, 1, 2, 11, 13] | 14 => some [0, 1, 2, 11, 13, 14] | 15 => some [0, 1, 2, 11, 13, 14, 160] | 16 => some [0, 1, 2, 11, 13, 14] | 17 => some [0, 1, 2, 11, 13, 14, 179] | 18 => some [10] | 19 => some [10] | _ => none)
  | 7 => (match r with | 0 => some [0, 3] | 1 => some [0, 3, 21] | 2 => some [4] | 3 => some [0, 3, 5, 6] | 4 => some [0, 3, 5, 6, 7, 8] | 5 => some [0, 3, 5, 6, 7, 8, 9, 10] | 6 => some [5, 6, 7, 8, 9, 10, 11, 12] | 7 => some [4] | _ => none)
  | 8 => (match r with | 0 => some [0] | 1 => some [0, 6] | 2 => some [2] | 3 => some [0, 3] | 4 => some [0, 3, 10] | 5 => some [0, 3] | 6 => some [0, 3, 19] | 7 => some [2] | 8 => some [2] | _ => none)
  | 9 => (match r with | 0 => some [0, 1] | 1 => some [0, 1, 6] | 2 => some [4] | _ => none)
  | 10 => (match r with | 0 => some [] | 1 => some [1, 2] | 2 => some [0] | _ => none)
  | 11 => (match r with | 0 => some [0, 1, 2] | 1 => some [0, 1, 2, 13] | 2 => some [6] | 3 => some [0, 1, 2, 7] | 4 => some [1, 7] | 5 => some [6] | _ => none)
  | 12 => (match r with | 0 => some [0, 1] | 1 => some [0, 1, 14] | 2 => some [4] | 3 => some [0, 1, 5] | 4 => some [1, 5, 17, 18, 19] | 5 => some [1, 5, 17, 18, 19, 20] | 6 => some [1, 5, 6, 7, 17, 18, 19] | 7 => some [1, 5, 6, 7, 17, 18, 19] | 8 => some [1, 5, 6, 17, 18, 19, 28, 29, 30] | 9 => some [1, 5, 6, 17, 18, 19, 28, 29, 30, 31] | 10 => some [1, 5, 6, 9, 17, 18, 19, 28, 29, 30] | 11 => some [1, 5, 6, 17, 18, 19, 28, 29, 30] | 12 => some [1, 5, 6, 17, 18, 19, 28, 29, 30] | 13 => some [1, 5, 17, 18, 19] | 14 => some [4] | _ => none)
  | 13 => (match r with | 0 => some [0, 1, 2] | 1 => some [0, 1, 2, 17] | 2 => some [6] | 3 => some [0, 1, 2, 7] | 4 => some [0, 1, 2, 7] | 5 => some [0, 1, 2, 7] | 6 => some [0, 1, 2, 7, 8] | 7 => some [0, 7, 8, 9] | 8 => some [0, 7, 8, 9, 28] | 9 => some [0, 7, 8, 9] | 10 => some [0, 7, 8, 9, 35] | 11 => some [0, 7, 8, 9, 40] | 12 => some [0, 7, 8, 9] | 13 => some [0, 7, 8, 9, 50, 51, 52] | 14 => some [0, 7, 8, 9, 50, 51, 52, 53] | 15 => some [0, 7, 8, 9, 11, 50, 51, 52] | 16 => some [0, 7, 8, 9, 50, 51, 52] | 17 => some [0, 7, 8, 9, 50, 51, 52] | 18 => some [8] | 19 => some [6] | _ => none)
  | 14 => (match r with | 0 => some [0, 1] | 1 => some [0, 1, 10] | 2 => some [4] | 3 => some [0, 1, 5] | 4 => some [0, 1, 5, 14] | 5 => some [0, 1, 5] | 6 => some [0, 1, 5, 25] | 7 => some [4] | 8 => some [4] | _ => none)
  | 15 => (match r with | 0 => some [0, 1] | 1 => some [0, 1, 8] | 2 => some [4] | 3 => some [4] | _ => none)
  | 16 => (match r with | 0 => some [0, 1] | 1 => some [0, 1, 10] | 2 => some [4] | 3 => some [0, 1, 5] | 4 => some [5] | 5 => some [4] | _ => none)
  | 17 => (match r with | 0 => some [0, 1] | 1 => some [0, 1, 8] | 2 => some [4] | 3 => some [4] | _ => none)
  | 18 => (match r with | 0 => some [0, 1, 2] | 1 => some [6] | _ => none)
  | 19 => (match r with | 0 => some [0, 1, 2] | 1 => some [0, 1, 2, 24] | 2 => some [6] | 3 => some [0, 7, 8] | 4 => some [0, 7, 8, 9, 10] | 5 => some [0, 7, 8, 9, 10, 11] | 6 => some [0, 7, 8, 9, 10, 11, 34] | 7 => some [0, 7, 8, 9, 10, 11] | 8 => some [0, 7, 8, 9, 10, 11, 42] | 9 => some [0, 7, 8, 9, 10, 11] | 10 => some [0, 9, 10, 12] | 11 => some [0, 9, 10, 12, 53] | 12 => some [0, 9, 10, 12] | 13 => some [0, 9, 10, 12, 13] | 14 => some [0, 9, 10, 12, 13, 14] | 15 => some [0, 9, 10, 12, 13, 14, 61] | 16 => some [0, 9, 10, 12, 13, 14] | 17 => some [0, 9, 10, 12, 13, 14] | 18 => some [0, 9, 10, 12, 79] | 19 => some [0, 9, 10, 12] | 20 => some [6] | _ => none)
  | 20 => (match r with | 0 => some [0, 1] | 1 => some [0, 1, 11] | 2 => some [4] | 3 => some [0, 1, 5] | 4 => some [0, 5, 6] | 5 => some [0, 5, 6, 22] | 6 => some [0, 5, 6] | 7 => some [0, 5, 6] | 8 => some [4] | _ => none)
  | 21 => (match r with | 0 => some [0, 1] | 1 => some [0, 1, 9] | 2 => some [4] | 3 => some [0, 1, 5] | 4 => some [0, 1, 5, 26] | 5 => some [0, 1, 5] | 6 => some [0, 1, 5] | 7 => some [4] | _ => none)
  | 22 => (match r with | 0 => some [0, 1, 2] | 1 => some [0, 2, 11, 12, 13] | 2 => some [0, 2, 11, 12, 13, 14] | 3 => some [0, 2, 8, 11, 12, 13] | 4 => some [0, 2, 8, 11, 12, 13, 24] | 5 => some [6] | 6 => some [0, 2, 11, 12, 13] | 7 => some [6] | _ => none)
  | 23 => (match r with | 0 => some [0, 1, 2] | 1 => some [0, 2, 7] | 2 => some [0, 2, 7, 8] | 3 => some [0, 2, 7, 8, 15] | 4 => some [0, 2, 7, 8] | 5 => some [0, 2, 7, 8, 28] | 6 => some [6] | 7 => some [6] | _ => none)
  | 24 => (match r with | 0 => some [0, 1, 2] | 1 => some [0, 1, 2, 13] | 2 => some [6] | 3 => some [0, 1, 2, 7] | 4 => some [0, 2, 7] | 5 => some [7] | 6 => some [6] | _ => none)
  | 25 => (match r with | 0 => some [0, 1, 2] | 1 => some [0, 1, 2, 20] | 2 => some [6] | 3 => some [7, 8] | 4 => some [7, 8, 9] | 5 => some [7, 8, 9, 10] | 6 => some [7, 8, 9, 10, 30] | 7 => some [7, 8, 9, 10] | 8 => some [7, 8, 9, 10, 39] | 9 => some [7, 8, 9, 10] | 10 => some [6] | _ => none)
  | 26 => (match r with | 0 => some [0] | 1 => some [0, 9] | 2 => some [2, 3] | 3 => some [0, 10, 11, 12] | 4 => some [0, 10, 11, 12, 13] | 5 => some [0, 4, 5, 10, 11, 12] | 6 => some [0, 4, 6, 10, 11, 12] | 7 => some [0, 4, 6, 10, 11, 12, 23] | 8 => some [2, 3] | 9 => some [0, 10, 11, 12] | 10 => some [2, 3] | _ => none)
  | 27 => (match r with | 0 => some [0] | 1 => some [0, 8] | 2 => some [2, 3] | 3 => some [0, 4] | 4 => some [0, 4, 12] | 5 => some [0, 4] | 6 => some [0, 4, 5] | 7 => some [0, 4, 5, 19] | 8 => some [2, 3] | 9 => some [2, 3] | _ => none)
  | 28 => (match r with | 0 => some [0, 3] | 1 => some [0, 3, 7] | 2 => some [0, 3, 7, 15] | 3 => some [4, 5] | 4 => some [0, 3, 19] | 5 => some [4, 5] | 6 => some [0, 3, 8] | 7 => some [0, 3, 8, 24] | 8 => some [4, 5] | 9 => some [0, 3] | 10 => some [4, 5] | _ => none)
  | 29 => (match r with | 0 => some [0, 3] | 1 => some [0, 3, 7] | 2 => some [0, 3, 7, 17] | 3 => some [4, 5] | 4 => some [8] | 5 => some [8, 10] | 6 => some [8, 10, 31] | 7 => some [4, 5] | 8 => some [4, 5] | _ => none)
  | 30 => (match r with | 0 => some [0, 1] | 1 => some [0, 1, 10] | 2 => some [4] | 3 => some [0, 1, 5] | 4 => some [0, 1, 5, 14] | 5 => some [0, 1, 5] | 6 => some [0, 1, 5, 41] | 7 => some [4] | 8 => some [4] | _ => none)
  | 31 => (match r with | 0 => some [] | 1 => some [0] | _ => none)
  | 32 => (match r with | 0 => some [1, 2] | 1 => some [1, 2, 6] | 2 => some [1, 2, 13] | 3 => some [4] | 4 => some [4] | _ => none)
  | 33 => (match r with | 0 => some [0, 1, 2, 3] | 1 => some [0, 1, 3, 8] | 2 => some [0, 1, 3, 8, 22] | 3 => some [0, 1, 3, 8] | 4 => some [0, 1, 3, 8, 32] | 5 => some [0, 1, 3, 8, 38, 39, 40] | 6 => some [0, 1, 3, 8, 38, 39, 40, 41] | 7 => some [0, 1, 3, 8, 10, 38, 39, 40] | 8 => some [0, 1, 3, 8, 38, 39, 40] | 9 => some [0, 1, 3, 8, 38, 39, 40] | _ => none)
  | 34 => (match r with | 0 => some [0, 2, 3] | 1 => some [0, 2, 3, 9] | 2 => some [0, 2, 3] | 3 => some [0, 2, 3] | _ => none)
  | 35 => (match r with | 0 => some [0, 1] | 1 => some [4] | _ => none)
  | 36 => (match r with | 0 => some [0] | 1 => some [0, 3] | 2 => some [0, 3, 4] | 3 => some [0, 3, 4, 10] | 4 => some [0, 3, 4] | 5 => some [0, 3, 4, 5] | 6 => some [0, 3, 4, 5, 6] | 7 => some [0, 3, 4, 5, 6, 20] | 8 => some [0, 3, 4, 5, 6] | 9 => some [0, 3, 4, 5, 6] | 10 => some [0, 3, 4] | 11 => some [2] | _ => none)
  | 37 => (match r with | 0 => some [0, 1] | 1 => some [0, 1, 5] | 2 => some [1, 5, 8, 9] | 3 => some [1, 5, 8, 9, 10] | 4 => some [1, 5, 6, 7, 8, 9] | 5 => some [1, 5, 6, 8, 9, 17] | 6 => some [1, 5, 8, 9] | 7 => some [1, 5, 8, 9] | 8 => some [4] | _ => none)
  | 38 => (match r with | 0 => some [0] | 1 => some [2] | _ => none)
  | 39 => (match r with | 0 => some [0, 1] | 1 => some [0, 1, 5] | 2 => some [0, 1, 5, 6] | 3 => some [0, 5, 6, 7] | 4 => some [0, 5, 6, 7, 12] | 5 => some [0, 5, 6, 7] | 6 => some [0, 5, 6, 7, 18] | 7 => some [0, 5, 6, 7] | 8 => some [0, 5, 6, 7] | 9 => some [4] | _ => none)
  | 40 => (match r with | 0 => some [0, 1] | 1 => some [0, 1, 5] | 2 => some [0, 1, 5, 9] | 3 => some [0, 1, 5] | 4 => some [0, 1, 5, 17] | 5 => some [4] | 6 => some [4] | _ => none)
  | 41 => (match r with | 0 => some [0] | 1 => some [2] | _ => none)
  | 42 => (match r with | 0 => some [2, 3] | 1 => some [2, 3, 5] | 2 => some [2, 3, 5, 34] | 3 => some [4] | 4 => some [2, 3, 5, 37] | 5 => some [4] | 6 => some [40] | 7 => some [4] | 8 => some [4] | _ => none)
  | 43 => (match r with | 0 => some [0, 1] | 1 => some [0, 1, 5] | 2 => some [0, 1, 5, 43] | 3 => some [4] | 4 => some [0, 1, 5, 6] | 5 => some [0, 1, 5, 6, 48] | 6 => some [0, 1, 5, 6] | 7 => some [0, 1, 5, 6, 65] | 8 => some [4] | 9 => some [0, 5, 7] | 10 => some [0, 5, 7, 70] | 11 => some [0, 5, 7] | 12 => some [0, 5, 7, 85] | 13 => some [4] | 14 => some [4] | _ => none)
  | 44 => (match r with | 0 => some [0] | 1 => some [0, 4] | 2 => some [2] | 3 => some [2] | _ => none)
  | 45 => (match r with | 0 => some [0] | 1 => some [0, 4] | 2 => some [2] | 3 => some [2] | _ => none)
  | 46 => (match r with | 0 => some [0, 1] | 1 => some [4] | _ => none)
  | 47 => (match r with | 0 => some [0, 1] | 1 => some [3] | _ => none)
  | 48 => (match r with | 0 => some [0] | 1 => some [4] | 2 => some [2] | _ => none)
  | 49 => (match r with | 0 => some [0, 1] | 1 => some [3] | _ => none)
  | 50 => (match r with | 0 => some [0, 1, 2] | 1 => some [4] | _ => none)
  | 51 => (match r with | 0 => some [0, 1] | 1 => some [0, 1, 7, 8] | 2 => some [0, 1, 7, 8, 9] | 3 => some [0, 1, 5, 7, 8] | 4 => some [0, 1, 5, 7, 8, 16] | 5 => some [4] | 6 => some [0, 1, 7, 8] | 7 => some [4] | _ => none)
  | _ => none
def hd : FuncId → Nat → Option (List Nat) := fun g r => match g with
  | 4 => (match r with | 8 => some [0, 1, 2, 3, 9, 10, 11] | 13 => some [0, 1, 2, 3, 9, 10, 11, 12] | _ => none)
  | 6 => (match r with | 5 => some [0, 1, 2, 3, 4, 11, 12] | 15 => some [0, 1, 2, 11, 13, 14] | _ => none)
  | 8 => (match r with | 4 => some [0, 3] | _ => none)
  | 12 => (match r with | 5 => some [1, 5, 17, 18, 19] | 9 => some [1, 5, 6, 17, 18, 19, 28, 29, 30] | _ => none)
  | 13 => (match r with | 8 => some [0, 7, 8, 9] | 14 => some [0, 7, 8, 9, 50, 51, 52] | _ => none)
  | 14 => (match r with | 4 => some [0, 1, 5] | _ => none)
  | 19 => (match r with | 6 => some [0, 7, 8, 9, 10, 11] | 11 => some [0, 9, 10, 12] | 15 => some [0, 9, 10, 12, 13, 14] | _ => none)
  | 20 => (match r with | 5 => some [0, 5, 6] | _ => none)
  | 21 => (match r with | 4 => some [0, 1, 5] | _ => none)
  | 22 => (match r with | 2 => some [0, 2, 11, 12, 13] | _ => none)
  | 23 => (match r with | 3 => some [0, 2, 7, 8] | _ => none)
  | 25 => (match r with | 6 => some [7, 8, 9, 10] | _ => none)
  | 26 => (match r with | 4 => some [0, 10, 11, 12] | _ => none)
  | 27 => (match r with | 4 => some [0, 4] | _ => none)
  | 30 => (match r with | 4 => some [0, 1, 5] | _ => none)
  | 33 => (match r with | 2 => some [0, 1, 3, 8] | 6 => some [0, 1, 3, 8, 38, 39, 40] | _ => none)
  | 34 => (match r with | 1 => some [0, 2, 3] | _ => none)
  | 36 => (match r with | 3 => some [0, 3, 4] | 7 => some [0, 3, 4, 5, 6] | _ => none)
  | 37 => (match r with | 3 => some [1, 5, 8, 9] | _ => none)
  | 39 => (match r with | 4 => some [0, 5, 6, 7] | _ => none)
  | 40 => (match r with | 2 => some [0, 1, 5] | _ => none)
  | 43 => (match r with | 5 => some [0, 1, 5, 6] | 10 => some [0, 5, 7] | _ => none)
  | 51 => (match r with | 2 => some [0, 1, 7, 8] | _ => none)
  | _ => none
def ow : FuncId → Nat → Bool := fun g s => match g with
  | 13 => (match s with | 8 => true | _ => false)
  | 19 => (match s with | 9 => true | 10 => true | _ => false)
  | 20 => (match s with | 5 => true | 13 => true | _ => false)
  | 21 => (match s with | 5 => true | 11 => true | _ => false)
  | 25 => (match s with | 9 => true | _ => false)
  | 28 => (match s with | 4 => true | 31 => true | _ => false)
  | 36 => (match s with | 3 => true | _ => false)
  | 37 => (match s with | 5 => true | _ => false)
  | 39 => (match s with | 5 => true | 6 => true | 9 => true | 20 => true | _ => false)
  | 44 => (match s with | 2 => true | _ => false)
  | 45 => (match s with | 2 => true | _ => false)
  | _ => false
def br : FuncId → Nat → Bool := fun g s => match g with
  | 34 => (match s with | 0 => true | _ => false)
  | _ => false
def fz : FuncId → Bool := fun g => match g with
  | 45 => false
  | _ => true
def sp : FuncId → Bool := fun g => match g with
  | 44 => true
  | 45 => true
  | _ => false
def fx : FuncId → List (List Nat) := fun g => match g with
  | 3 => [[2]]
  | 4 => [[2]]
  | 5 => [[2]]
  | 6 => [[2]]
  | 7 => [[2], [1, 0]]
  | 8 => [[2]]
  | 9 => [[2]]
  | 11 => [[2]]
  | 12 => [[2]]
  | 13 => [[2]]
  | 14 => [[1], [1]]
  | 15 => [[2]]
  | 16 => [[2]]
  | 17 => [[2]]
  | 18 => [[2]]
  | 19 => [[2]]
  | 20 => [[2]]
  | 21 => [[2]]
  | 22 => [[2]]
  | 23 => [[2]]
  | 24 => [[2]]
  | 25 => [[2]]
  | 26 => [[2]]
  | 27 => [[2]]
  | 28 => [[2], [1, 0]]
  | 29 => [[2], [1, 0]]
  | 30 => [[2], [2]]
  | 32 => [[2], [1]]
  | 33 => [[], [2]]
  | 34 => [[1]]
  | 35 => [[2]]
  | 36 => [[2]]
  | 39 => [[2]]
  | 40 => [[1]]
  | 42 => [[2], [1, 0]]
  | 43 => [[2]]
  | 44 => [[1]]
  | 45 => [[2]]
  | 46 => [[1]]
  | 48 => [[2]]
  | 51 => [[1]]
  | _ => []
def wk : FuncId → List (List Nat) := fun g => match g with
  | 13 => [[1]]
  | 16 => [[1]]
  | 17 => [[1]]
  | 19 => [[1]]
  | 20 => [[1]]
  | 21 => [[1]]
  | 24 => [[1]]
  | 25 => [[1]]
  | 28 => [[2]]
  | 29 => [[2]]
  | 31 => [[2]]
  | 36 => [[1]]
  | 37 => [[1]]
  | 39 => [[1]]
  | 44 => [[1]]
  | _ => []
def sh : TypeId → Option (List Sk) := fun t => match t with
  | 3 => some [.int .i64]
  | 4 => some [.bool]
  | 22 => some [.sl 2]
  | 27 => some [.sl 1]
  | 29 => some [.sl 1, .int .i64]
  | 37 => some [.int .i64]
  | _ => none
noncomputable def E : Env := ⟨T, B, lv, hd, ow, br, fz, sp, fx, wk, fun _ => none⟩
theorem env_ok : EnvOk Try.prog E := ⟨T_ok, B_ok, B_enter, fun g f args H vals H' h => by cases h⟩
end Go.Proofs.Ytkdinelcmanfcaa
