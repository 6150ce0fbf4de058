/-
  The environment of this seat for EV, written by a program: its types, its functions, the slots that live on. Nothing here is trusted: 'env_ok' says that the types and functions are the program's.
-/
import Derived.Test.YtedniogmjhhhmaaDoorEvM
import Derived.Test.YtedniogmjhhhmaaDoorProg
import Derived.KernelRfl
set_option linter.all false
set_option linter.unusedSimpArgs false
set_option linter.unusedVariables false
namespace Go.Proofs.YtedniogmjhhhmaaDoor
open Go.Ev

def T : TypeId → Option Ty := fun t => match t with
  | 1 => some ⟨.other, 1, 8, [], [.fnil], []⟩
  | 3 => some ⟨.int .i64, 1, 8, [.int], [.int .i64 0], []⟩
  | 4 => some ⟨.bool, 1, 1, [.bool], [.bool false], []⟩
  | 5 => some ⟨.int .u8, 1, 1, [.int], [.int .u8 0], []⟩
  | 9 => some ⟨.str, 1, 16, [.str], [.str []], []⟩
  | 20 => some ⟨.other, 1, 16, [], [.inil], []⟩
  | 21 => some ⟨.int .i32, 1, 4, [.int], [.int .i32 0], []⟩
  | 22 => some ⟨.slice 33, 1, 24, [], [.sl 5 (some true) true []], []⟩
  | 24 => some ⟨.int .i64, 1, 8, [.int], [.int .i64 0], []⟩
  | 27 => some ⟨.int .i64, 1, 8, [.int], [.int .i64 0], []⟩
  | 29 => some ⟨.struct [(0, 1, false), (1, 1, false), (2, 1, false)], 3, 32, [.int, .int, .str], [.int .i64 0, .int .i64 0, .str []], []⟩
  | 33 => some ⟨.struct [(0, 1, false), (1, 1, false), (2, 3, true)], 5, 48, [.int, .int, .int, .int, .str], [.int .i64 0, .int .i64 0, .int .i64 0, .int .i64 0, .str []], []⟩
  | 34 => some ⟨.slice 37, 1, 24, [], [.sl 8 (some true) true []], []⟩
  | 37 => some ⟨.struct [(0, 1, false), (1, 1, false), (2, 3, true), (5, 3, true)], 8, 80, [.int, .int, .int, .int, .str, .int, .int, .str], [.int .i64 0, .int .i64 0, .int .i64 0, .int .i64 0, .str [], .int .i64 0, .int .i64 0, .str []], []⟩
  | 54 => some ⟨.other, 1, 8, [], [.fnil], []⟩
  | 58 => some ⟨.other, 1, 8, [], [.fnil], []⟩
  | 67 => some ⟨.other, 1, 8, [], [.fnil], []⟩
  | 70 => some ⟨.slice 3, 1, 24, [], [.sl 1 (some true) true []], []⟩
  | 75 => some ⟨.other, 1, 8, [], [.fnil], []⟩
  | 76 => some ⟨.slice 22, 1, 24, [], [.sl 1 (some true) true []], []⟩
  | 82 => some ⟨.other, 1, 8, [], [.fnil], []⟩
  | 83 => some ⟨.int .u64, 1, 8, [.int], [.int .u64 0], []⟩
  | 88 => some ⟨.struct [(0, 1, false)], 1, 8, [.int], [.int .i64 0], []⟩
  | 92 => some ⟨.int .i64, 1, 8, [.int], [.int .i64 0], []⟩
  | 99 => some ⟨.int .u32, 1, 4, [.int], [.int .u32 0], []⟩
  | 101 => some ⟨.int .u64, 1, 8, [.int], [.int .u64 0], []⟩
  | 104 => some ⟨.int .u64, 1, 8, [.int], [.int .u64 0], []⟩
  | 108 => some ⟨.ptr 3, 1, 8, [], [.pnil], []⟩
  | 111 => some ⟨.ptr 104, 1, 8, [], [.pnil], []⟩
  | 114 => some ⟨.array 256 5, 256, 256, [], [], [.int .u8 0]⟩
  | 116 => some ⟨.struct [(0, 1, false), (1, 1, false)], 2, 2, [.int, .int], [.int .u8 0, .int .u8 0], []⟩
  | 117 => some ⟨.array 16 116, 32, 32, [], [], [.int .u8 0, .int .u8 0]⟩
  | _ => none

theorem ty1 : tyOf Tryd.prog 1 = some ⟨.other, 1, 8, [], [.fnil], []⟩ := by kernel_rfl
theorem ty3 : tyOf Tryd.prog 3 = some ⟨.int .i64, 1, 8, [.int], [.int .i64 0], []⟩ := by kernel_rfl
theorem ty4 : tyOf Tryd.prog 4 = some ⟨.bool, 1, 1, [.bool], [.bool false], []⟩ := by kernel_rfl
theorem ty5 : tyOf Tryd.prog 5 = some ⟨.int .u8, 1, 1, [.int], [.int .u8 0], []⟩ := by kernel_rfl
theorem ty9 : tyOf Tryd.prog 9 = some ⟨.str, 1, 16, [.str], [.str []], []⟩ := by kernel_rfl
theorem ty20 : tyOf Tryd.prog 20 = some ⟨.other, 1, 16, [], [.inil], []⟩ := by kernel_rfl
theorem ty21 : tyOf Tryd.prog 21 = some ⟨.int .i32, 1, 4, [.int], [.int .i32 0], []⟩ := by kernel_rfl
theorem ty22 : tyOf Tryd.prog 22 = some ⟨.slice 33, 1, 24, [], [.sl 5 (some true) true []], []⟩ := by kernel_rfl
theorem ty24 : tyOf Tryd.prog 24 = some ⟨.int .i64, 1, 8, [.int], [.int .i64 0], []⟩ := by kernel_rfl
theorem ty27 : tyOf Tryd.prog 27 = some ⟨.int .i64, 1, 8, [.int], [.int .i64 0], []⟩ := by kernel_rfl
theorem ty29 : tyOf Tryd.prog 29 = some ⟨.struct [(0, 1, false), (1, 1, false), (2, 1, false)], 3, 32, [.int, .int, .str], [.int .i64 0, .int .i64 0, .str []], []⟩ := by kernel_rfl
theorem ty33 : tyOf Tryd.prog 33 = some ⟨.struct [(0, 1, false), (1, 1, false), (2, 3, true)], 5, 48, [.int, .int, .int, .int, .str], [.int .i64 0, .int .i64 0, .int .i64 0, .int .i64 0, .str []], []⟩ := by kernel_rfl
theorem ty34 : tyOf Tryd.prog 34 = some ⟨.slice 37, 1, 24, [], [.sl 8 (some true) true []], []⟩ := by kernel_rfl
theorem ty37 : tyOf Tryd.prog 37 = some ⟨.struct [(0, 1, false), (1, 1, false), (2, 3, true), (5, 3, true)], 8, 80, [.int, .int, .int, .int, .str, .int, .int, .str], [.int .i64 0, .int .i64 0, .int .i64 0, .int .i64 0, .str [], .int .i64 0, .int .i64 0, .str []], []⟩ := by kernel_rfl
theorem ty54 : tyOf Tryd.prog 54 = some ⟨.other, 1, 8, [], [.fnil], []⟩ := by kernel_rfl
theorem ty58 : tyOf Tryd.prog 58 = some ⟨.other, 1, 8, [], [.fnil], []⟩ := by kernel_rfl
theorem ty67 : tyOf Tryd.prog 67 = some ⟨.other, 1, 8, [], [.fnil], []⟩ := by kernel_rfl
theorem ty70 : tyOf Tryd.prog 70 = some ⟨.slice 3, 1, 24, [], [.sl 1 (some true) true []], []⟩ := by kernel_rfl
theorem ty75 : tyOf Tryd.prog 75 = some ⟨.other, 1, 8, [], [.fnil], []⟩ := by kernel_rfl
theorem ty76 : tyOf Tryd.prog 76 = some ⟨.slice 22, 1, 24, [], [.sl 1 (some true) true []], []⟩ := by kernel_rfl
theorem ty82 : tyOf Tryd.prog 82 = some ⟨.other, 1, 8, [], [.fnil], []⟩ := by kernel_rfl
theorem ty83 : tyOf Tryd.prog 83 = some ⟨.int .u64, 1, 8, [.int], [.int .u64 0], []⟩ := by kernel_rfl
theorem ty88 : tyOf Tryd.prog 88 = some ⟨.struct [(0, 1, false)], 1, 8, [.int], [.int .i64 0], []⟩ := by kernel_rfl
theorem ty92 : tyOf Tryd.prog 92 = some ⟨.int .i64, 1, 8, [.int], [.int .i64 0], []⟩ := by kernel_rfl
theorem ty99 : tyOf Tryd.prog 99 = some ⟨.int .u32, 1, 4, [.int], [.int .u32 0], []⟩ := by kernel_rfl
theorem ty101 : tyOf Tryd.prog 101 = some ⟨.int .u64, 1, 8, [.int], [.int .u64 0], []⟩ := by kernel_rfl
theorem ty104 : tyOf Tryd.prog 104 = some ⟨.int .u64, 1, 8, [.int], [.int .u64 0], []⟩ := by kernel_rfl
theorem ty108 : tyOf Tryd.prog 108 = some ⟨.ptr 3, 1, 8, [], [.pnil], []⟩ := by kernel_rfl
theorem ty111 : tyOf Tryd.prog 111 = some ⟨.ptr 104, 1, 8, [], [.pnil], []⟩ := by kernel_rfl
theorem ty114 : tyOf Tryd.prog 114 = some ⟨.array 256 5, 256, 256, [], [], [.int .u8 0]⟩ := by kernel_rfl
theorem ty116 : tyOf Tryd.prog 116 = some ⟨.struct [(0, 1, false), (1, 1, false)], 2, 2, [.int, .int], [.int .u8 0, .int .u8 0], []⟩ := by kernel_rfl
theorem ty117 : tyOf Tryd.prog 117 = some ⟨.array 16 116, 32, 32, [], [], [.int .u8 0, .int .u8 0]⟩ := by kernel_rfl
theorem T_ok (t : TypeId) (y : Ty) (h : T t = some y) : tyOf Tryd.prog t = some y := by
  unfold T at h
  split at h <;> simp only [Option.some.injEq, reduceCtorEq] at h <;> subst h
  · exact ty1
  · exact ty3
  · exact ty4
  · exact ty5
  · exact ty9
  · exact ty20
  · exact ty21
  · exact ty22
  · exact ty24
  · exact ty27
  · exact ty29
  · exact ty33
  · exact ty34
  · exact ty37
  · exact ty54
  · exact ty58
  · exact ty67
  · exact ty70
  · exact ty75
  · exact ty76
  · exact ty82
  · exact ty83
  · exact ty88
  · exact ty92
  · exact ty99
  · exact ty101
  · exact ty104
  · exact ty108
  · exact ty111
  · exact ty114
  · exact ty116
  · exact ty117

noncomputable def B : FuncId → Option Func := fun g => match g with
  | 3 => some Tryd.f3
  | 4 => some Tryd.f4
  | 5 => some Tryd.f5
  | 6 => some Tryd.f6
  | 7 => some Tryd.f7
  | 8 => some Tryd.f8
  | 9 => some Tryd.f9
  | 10 => some Tryd.f10
  | 11 => some Tryd.f11
  | 12 => some Tryd.f12
  | 13 => some Tryd.f13
  | 14 => some Tryd.f14
  | 15 => some Tryd.f15
  | 16 => some Tryd.f16
  | 17 => some Tryd.f17
  | 18 => some Tryd.f18
  | 19 => some Tryd.f19
  | 20 => some Tryd.f20
  | 21 => some Tryd.f21
  | 22 => some Tryd.f22
  | 23 => some Tryd.f23
  | 24 => some Tryd.f24
  | 25 => some Tryd.f25
  | 26 => some Tryd.f26
  | 27 => some Tryd.f27
  | 28 => some Tryd.f28
  | 29 => some Tryd.f29
  | 30 => some Tryd.f30
  | 31 => some Tryd.f31
  | 32 => some Tryd.f32
  | 33 => some Tryd.f33
  | 34 => some Tryd.f34
  | 35 => some Tryd.f35
  | 36 => some Tryd.f36
  | 37 => some Tryd.f37
  | 38 => some Tryd.f38
  | 39 => some Tryd.f39
  | 40 => some Tryd.f40
  | 41 => some Tryd.f41
  | 42 => some Tryd.f42
  | 43 => some Tryd.f43
  | 44 => some Tryd.f44
  | 45 => some Tryd.f45
  | 46 => some Tryd.f46
  | 47 => some Tryd.f47
  | 48 => some Tryd.f48
  | 49 => some Tryd.f49
  | 50 => some Tryd.f50
  | 51 => some Tryd.f51
  | 52 => some Tryd.f52
  | 53 => some Tryd.f53
  | 54 => some Tryd.f54
  | 55 => some Tryd.f55
  | 56 => some Tryd.f56
  | 57 => some Tryd.f57
  | 58 => some Tryd.f58
  | 59 => some Tryd.f59
  | 60 => some Tryd.f60
  | 61 => some Tryd.f61
  | 62 => some Tryd.f62
  | 63 => some Tryd.f63
  | 64 => some Tryd.f64
  | 65 => some Tryd.f65
  | 66 => some Tryd.f66
  | 67 => some Tryd.f67
  | 68 => some Tryd.f68
  | 69 => some Tryd.f69
  | 70 => some Tryd.f70
  | 71 => some Tryd.f71
  | 72 => some Tryd.f72
  | 73 => some Tryd.f73
  | 74 => some Tryd.f74
  | 75 => some Tryd.f75
  | 76 => some Tryd.f76
  | 77 => some Tryd.f77
  | 78 => some Tryd.f78
  | 79 => some Tryd.f79
  | 80 => some Tryd.f80
  | 81 => some Tryd.f81
  | 82 => some Tryd.f82
  | 83 => some Tryd.f83
  | 84 => some Tryd.f84
  | 85 => some Tryd.f85
  | 86 => some Tryd.f86
  | 87 => some Tryd.f87
  | 88 => some Tryd.f88
  | _ => none
theorem B_ok (g : FuncId) (fn : Func) (h : B g = some fn) : Tryd.prog.funcs[g]? = some fn := by
  unfold B at h
  split at h <;> simp only [Option.some.injEq, reduceCtorEq] at h <;> subst h
  · exact Tryd.func3
  · exact Tryd.func4
  · exact Tryd.func5
  · exact Tryd.func6
  · exact Tryd.func7
  · exact Tryd.func8
  · exact Tryd.func9
  · exact Tryd.func10
  · exact Tryd.func11
  · exact Tryd.func12
  · exact Tryd.func13
  · exact Tryd.func14
  · exact Tryd.func15
  · exact Tryd.func16
  · exact Tryd.func17
  · exact Tryd.func18
  · exact Tryd.func19
  · exact Tryd.func20
  · exact Tryd.func21
  · exact Tryd.func22
  · exact Tryd.func23
  · exact Tryd.func24
  · exact Tryd.func25
  · exact Tryd.func26
  · exact Tryd.func27
  · exact Tryd.func28
  · exact Tryd.func29
  · exact Tryd.func30
  · exact Tryd.func31
  · exact Tryd.func32
  · exact Tryd.func33
  · exact Tryd.func34
  · exact Tryd.func35
  · exact Tryd.func36
  · exact Tryd.func37
  · exact Tryd.func38
  · exact Tryd.func39
  · exact Tryd.func40
  · exact Tryd.func41
  · exact Tryd.func42
  · exact Tryd.func43
  · exact Tryd.func44
  · exact Tryd.func45
  · exact Tryd.func46
  · exact Tryd.func47
  · exact Tryd.func48
  · exact Tryd.func49
  · exact Tryd.func50
  · exact Tryd.func51
  · exact Tryd.func52
  · exact Tryd.func53
  · exact Tryd.func54
  · exact Tryd.func55
  · exact Tryd.func56
  · exact Tryd.func57
  · exact Tryd.func58
  · exact Tryd.func59
  · exact Tryd.func60
  · exact Tryd.func61
  · exact Tryd.func62
  · exact Tryd.func63
  · exact Tryd.func64
  · exact Tryd.func65
  · exact Tryd.func66
  · exact Tryd.func67
  · exact Tryd.func68
  · exact Tryd.func69
  · exact Tryd.func70
  · exact Tryd.func71
  · exact Tryd.func72
  · exact Tryd.func73
  · exact Tryd.func74
  · exact Tryd.func75
  · exact Tryd.func76
  · exact Tryd.func77
  · exact Tryd.func78
  · exact Tryd.func79
  · exact Tryd.func80
  · exact Tryd.func81
  · exact Tryd.func82
  · exact Tryd.func83
  · exact Tryd.func84
  · exact Tryd.func85
  · exact Tryd.func86
  · exact Tryd.func87
  · exact Tryd.func88
theorem B_enter (g : FuncId) (fn : Func) (h : B g = some fn) (_ : fn.body.isSome = true) : (fn.name == "runtime.NumGoroutine") = false := by
  unfold B at h
  split at h <;> simp only [Option.some.injEq, reduceCtorEq] at h <;> subst h <;> kernel_rfl

def lv : FuncId → Nat → Option (List Nat) := fun g r => match g with
  | 3 => (match r with | 0 => some [0, 1] | 1 => some [0, 1, 39] | 2 => some [4] | 3 => some [0, 1, 5] | 4 => some [0, 1, 5, 6] | 5 => some [0, 1, 5, 6, 7] | 6 => some [0, 1, 5, 6, 7, 49] | 7 => some [0, 1, 5, 6, 7] | 8 => some [0, 1, 5, 6, 7, 8, 9] | 9 => some [0, 1, 5, 6, 7, 8, 9, 10, 11] | 10 => some [0, 1, 5, 6, 7, 8, 9, 10, 11, 12, 13] | 11 => some [0, 1, 5, 6, 7, 8, 9, 10, 11, 12, 13, 14, 15] | 12 => some [0, 1, 5, 6, 7] | 13 => some [0, 1, 5, 16] | 14 => some [0, 1, 5, 16, 17] | 15 => some [0, 1, 5, 16, 17, 119] | 16 => some [0, 1, 5, 16, 17] | 17 => some [0, 1, 5, 16, 17, 18] | 18 => some [0, 1, 5, 16, 17, 18, 20] | 19 => some [0, 1, 5, 16, 17, 180] | 20 => some [4] | 21 => some [4] | _ => none)
  | 4 => (match r with | 0 => some [0, 1, 2, 4, 8] | 1 => some [0, 1, 2, 4, 8, 31] | 2 => some [10] | 3 => some [0, 1, 2, 4, 8, 11, 12] | 4 => some [0, 1, 2, 4, 8, 11, 12, 13, 14] | 5 => some [0, 1, 2, 4, 8, 11, 12, 13, 48] | 6 => some [0, 1, 2, 4, 8, 11, 12, 13, 15, 16] | 7 => some [0, 1, 2, 4, 8, 11, 12, 13, 15, 16, 17] | 8 => some [0, 1, 2, 4, 11, 12, 91] | 9 => some [10] | 10 => some [1, 2, 4, 11, 12, 18, 19] | 11 => some [1, 2, 4, 11, 12, 18, 100] | 12 => some [1, 2, 4, 11, 12, 18, 20, 21] | 13 => some [11, 12, 18, 20, 21, 22] | 14 => some [137] | 15 => some [10] | 16 => some [10] | _ => none)
  | 5 => (match r with | 0 => some [0, 1, 2, 3] | 1 => some [0, 1, 2, 3, 22] | 2 => some [8] | 3 => some [0, 1, 2, 3, 9] | 4 => some [0, 1, 2, 3, 9, 10, 11] | 5 => some [0, 1, 2, 3, 9, 10, 11, 12, 13] | 6 => some [0, 1, 2, 9, 10, 11, 12, 13, 14] | 7 => some [0, 1, 2, 9, 65] | 8 => some [8] | 9 => some [8] | _ => none)
  | 6 => (match r with | 0 => some [0, 1, 2, 7] | 1 => some [0, 1, 2, 7, 30] | 2 => some [8] | 3 => some [0, 1, 2, 7, 9] | 4 => some [0, 1, 2, 7, 9, 10, 11] | 5 => some [0, 1, 2, 9, 10, 11, 12, 13] | 6 => some [0, 1, 2, 9, 10, 11, 12, 13, 14, 15] | 7 => some [0, 1, 2, 9, 10, 11, 12, 13, 14, 15, 16, 17] | 8 => some [0, 1, 2, 9, 10, 11, 12, 13, 14, 15, 16, 17, 18, 19] | 9 => some [0, 1, 2, 9, 10, 11, 12, 13, 14, 15, 16, 17, 18, 19, 20, 21] | 10 => some [8] | _ => none)
  | 7 => (match r with | 0 => some [0, 1, 2] | 1 => some [0, 1, 2, 24] | 2 => some [6] | 3 => some [0, 1, 2, 7] | 4 => some [0, 1, 2, 7, 29] | 5 => some [0, 1, 2, 7] | 6 => some [0, 1, 2, 7, 49] | 7 => some [6] | 8 => some [0, 1, 2, 8, 9] | 9 => some [0, 1, 8, 9, 10, 11] | 10 => some [6] | _ => none)
  | 8 => (match r with | 0 => some [0, 1] | 1 => some [0, 1, 29] | 2 => some [4] | 3 => some [0, 1, 5] | 4 => some [0, 1, 5, 6, 7] | 5 => some [0, 1, 5, 6, 7, 8] | 6 => some [0, 1, 5, 6, 7, 8, 9] | 7 => some [0, 1, 5, 6, 7, 8, 9, 43] | 8 => some [0, 1, 5, 6, 7, 8, 9] | 9 => some [0, 1, 5, 6, 7, 8, 9] | 10 => some [0, 1, 6, 7, 8, 10, 11] | 11 => some [4] | _ => none)
  | 9 => (match r with | 0 => some [0] | 1 => some [0, 6] | 2 => some [2] | 3 => some [0, 3] | 4 => some [0, 3, 10] | 5 => some [0, 3] | 6 => some [0, 3, 20] | 7 => some [2] | 8 => some [2] | _ => none)
  | 10 => (match r with | 0 => some [0] | 1 => some [0, 8] | 2 => some [2] | 3 => some [0, 9, 10, 11] | 4 => some [0, 9, 10, 11, 12] | 5 => some [0, 3, 4, 9, 10, 11] | 6 => some [0, 3, 4, 9, 10, 11, 27] | 7 => some [2] | 8 => some [0, 3, 4, 9, 10, 11, 29] | 9 => some [0, 4, 5, 9, 10, 11] | 10 => some [0, 9, 10, 11, 53] | 11 => some [2] | 12 => some [0, 9, 10, 11] | 13 => some [2] | _ => none)
  | 11 => (match r with | 0 => some [] | 1 => some [1, 2] | 2 => some [2, 3, 4] | 3 => some [2, 3, 4, 5, 6] | 4 => some [0] | _ => none)
  | 12 => (match r with | 0 => some [0, 1, 4] | 1 => some [0, 1, 4, 9] | 2 => some [4, 5] | 3 => some [4, 6] | 4 => some [4, 5] | _ => none)
  | 13 => (match r with | 0 => some [2, 3, 4] | 1 => some [2, 3, 4, 17] | 2 => some [4] | 3 => some [2, 3, 4, 5] | 4 => some [2, 3, 4, 5, 20] | 5 => some [2, 3, 5, 6, 22] | 6 => some [2, 3, 5, 6, 7] | 7 => some [5, 8] | 8 => some [5, 8, 36] | 9 => some [5, 8, 9] | 10 => some [5, 8, 9, 71] | 11 => some [] | 12 => some [] | 13 => some [4] | _ => none)
  | 14 => (match r with | 0 => some [0, 1] | 1 => some [0, 1, 10] | 2 => some [4] | 3 => some [0, 1, 5] | 4 => some [0, 1, 5, 14] | 5 => some [0, 1, 5] | 6 => some [0, 1, 5, 25] | 7 => some [4] | 8 => some [4] | _ => none)
  | 15 => (match r with | 0 => some [0, 1, 2, 7] | 1 => some [0, 1, 2, 7, 12] | 2 => some [8, 9] | 3 => some [8, 9] | _ => none)
  | 16 => (match r with | 0 => some [0, 1, 2] | 1 => some [6, 7] | _ => none)
  | 17 => (match r with | 0 => some [0, 1, 2] | 1 => some [0, 1, 2, 12] | 2 => some [6] | 3 => some [0, 1, 2, 7] | 4 => some [1, 2, 7, 13, 14, 15] | 5 => some [1, 2, 7, 13, 14, 15, 16] | 6 => some [1, 2, 7, 9, 13, 14, 15] | 7 => some [1, 2, 7, 9, 13, 14, 15] | 8 => some [1, 2, 7, 13, 14, 15] | 9 => some [1, 2, 7, 13, 14, 15] | 10 => some [6] | _ => none)
  | 18 => (match r with | 0 => some [0, 1, 2, 7] | 1 => some [0, 1, 2, 7, 17] | 2 => some [8, 9] | 3 => some [0, 1, 2, 7, 21] | 4 => some [8, 9] | 5 => some [8, 9] | _ => none)
  | 19 => (match r with | 0 => some [0, 1, 2] | 1 => some [0, 1, 2, 10] | 2 => some [6, 7] | 3 => some [0, 1, 2, 14] | 4 => some [6, 7] | 5 => some [6, 7] | _ => none)
  | 20 => (match r with | 0 => some [0, 1, 4] | 1 => some [0, 1, 4, 9] | 2 => some [4, 5] | 3 => some [4, 6] | 4 => some [4, 5] | _ => none)
  | 21 => (match r with | 0 => some [0] | 1 => some [5] | 2 => some [2] | 3 => some [2] | _ => none)
  | 22 => (match r with | 0 => some [0, 1, 2] | 1 => some [0, 1, 2, 7] | 2 => some [0, 1, 2, 7, 13] | 3 => some [6] | 4 => some [0, 1, 2, 7, 8] | 5 => some [0, 1, 2, 7, 8, 17] | 6 => some [0, 1, 2, 7, 8] | 7 => some [0, 1, 2, 7, 8, 9, 10] | 8 => some [0, 1, 2, 7, 8, 9, 10, 36] | 9 => some [0, 1, 2, 7, 8] | 10 => some [6] | _ => none)
  | 23 => (match r with | 0 => some [1, 2] | 1 => some [1, 2, 16] | 2 => some [4, 5] | 3 => some [1, 2, 19] | 4 => some [4, 5] | 5 => some [1, 6] | 6 => some [6, 22, 23, 24] | 7 => some [6, 22, 23, 24, 25] | 8 => some [6, 8, 22, 23, 24] | 9 => some [6, 22, 23, 24] | 10 => some [6, 22, 23, 24] | 11 => some [4, 5] | _ => none)
  | 24 => (match r with | 0 => some [0, 1] | 1 => some [0, 1, 16] | 2 => some [4, 5] | 3 => some [0, 1, 6] | 4 => some [0, 1, 6, 20] | 5 => some [0, 1, 6] | 6 => some [0, 1, 6, 29] | 7 => some [4, 5] | 8 => some [1, 7] | 9 => some [1, 7, 8] | 10 => some [1, 7, 8, 36] | 11 => some [1, 7, 8] | 12 => some [1, 7, 8] | 13 => some [4, 5] | _ => none)
  | 25 => (match r with | 0 => some [0, 1] | 1 => some [0, 1, 10] | 2 => some [4] | 3 => some [0, 1, 5] | 4 => some [0, 1, 5, 14] | 5 => some [0, 1, 5] | 6 => some [0, 1, 5, 25] | 7 => some [4] | 8 => some [4] | _ => none)
  | 26 => (match r with | 0 => some [0, 1] | 1 => some [0, 1, 17] | 2 => some [4] | 3 => some [0, 1, 5] | 4 => some [0, 1, 5, 6] | 5 => some [0, 1, 5, 6, 7] | 6 => some [0, 1, 5, 6, 7, 25] | 7 => some [0, 1, 5, 6, 7] | 8 => some [0, 1, 5, 6, 7, 8] | 9 => some [0, 1, 5, 6, 7, 8, 56] | 10 => some [0, 1, 5, 6, 7, 8, 9] | 11 => some [0, 1, 5, 6, 7, 8, 9, 91] | 12 => some [0, 1, 5, 6, 7] | 13 => some [0, 1, 5, 6, 7] | 14 => some [4] | _ => none)
  | 27 => (match r with | 0 => some [0, 1] | 1 => some [4] | _ => none)
  | 28 => (match r with | 0 => some [1] | 1 => some [1, 4] | 2 => some [1, 4, 5] | 3 => some [9] | 4 => some [2] | 5 => some [1, 10] | 6 => some [26] | 7 => some [2] | 8 => some [2] | _ => none)
  | 29 => (match r with | 0 => some [0, 2] | 1 => some [2] | _ => none)
  | 30 => (match r with | 0 => some [0, 1, 4] | 1 => some [0, 1, 4, 5] | 2 => some [0, 4, 5, 25] | 3 => some [4] | 4 => some [4] | _ => none)
  | 31 => (match r with | 0 => some [2, 3] | 1 => some [4] | _ => none)
  | 32 => (match r with | 0 => some [0, 1, 2, 7] | 1 => some [0, 1, 2, 7, 12] | 2 => some [8, 9] | 3 => some [0, 1, 2, 7, 16] | 4 => some [8, 9] | 5 => some [8, 9] | _ => none)
  | 33 => (match r with | 0 => some [0, 3] | 1 => some [0, 3, 16] | 2 => some [4] | 3 => some [0, 3, 5] | 4 => some [0, 3, 5, 42] | 5 => some [0] | 6 => some [4] | 7 => some [4] | _ => none)
  | 34 => (match r with | 0 => some [0] | 1 => some [0, 6] | 2 => some [2] | 3 => some [0, 3] | 4 => some [0, 3, 10] | 5 => some [0, 3] | 6 => some [0, 3, 33] | 7 => some [2] | 8 => some [0, 3, 77] | 9 => some [2] | 10 => some [2] | _ => none)
  | 35 => (match r with | 0 => some [1] | 1 => some [2] | _ => none)
  | 36 => (match r with | 0 => some [0, 1] | 1 => some [4] | _ => none)
  | 37 => (match r with | 0 => some [0] | 1 => some [0, 6] | 2 => some [2, 3] | 3 => some [2, 3] | _ => none)
  | 38 => (match r with | 0 => some [0, 1, 2, 7] | 1 => some [0, 1, 2, 7, 9] | 2 => some [0, 1, 2, 7, 9, 10] | 3 => some [0, 1, 2, 7, 9, 10, 11] | 4 => some [0, 1, 2, 7, 9, 10, 11, 22] | 5 => some [0, 1, 2, 7, 9, 10, 11] | 6 => some [0, 1, 2, 7, 9, 10, 11, 12] | 7 => some [0, 1, 2, 7, 9, 10, 11, 12, 46] | 8 => some [0, 1, 2, 7, 9, 10, 11, 12] | 9 => some [0, 1, 2, 7, 9, 10, 11] | 10 => some [8] | _ => none)
  | 39 => (match r with | 0 => some [0, 1, 4] | 1 => some [0, 1, 4, 5] | 2 => some [0, 1, 4, 5, 9] | 3 => some [0, 1, 4, 5] | 4 => some [0, 1, 4, 5, 27] | 5 => some [4] | 6 => some [4] | _ => none)
  | 40 => (match r with | 0 => some [0] | 1 => some [0, 3] | 2 => some [3, 6, 7, 8] | 3 => some [3, 6, 7, 8, 9] | 4 => some [3, 5, 6, 7, 8] | 5 => some [5, 6, 7, 8, 42] | 6 => some [2] | 7 => some [3, 6, 7, 8] | 8 => some [3, 6, 7, 8] | 9 => some [2] | _ => none)
  | 41 => (match r with | 0 => some [0, 1] | 1 => some [4] | _ => none)
  | 42 => (match r with | 0 => some [1, 2] | 1 => some [3] | _ => none)
  | 43 => (match r with | 0 => some [2, 3, 4] | 1 => some [2, 3, 4, 5] | 2 => some [2, 3, 4, 18] | 3 => some [2, 3, 4, 6, 20] | 4 => some [2, 3, 4, 6, 7] | 5 => some [4, 38] | 6 => some [] | 7 => some [4] | _ => none)
  | 44 => (match r with | 0 => some [0] | 1 => some [0, 4] | 2 => some [2] | 3 => some [2] | _ => none)
  | 45 => (match r with | 0 => some [0, 1, 2, 7] | 1 => some [0, 1, 2, 7, 9] | 2 => some [0, 1, 2, 9, 10] | 3 => some [0, 1, 2, 9, 10, 11] | 4 => some [1, 2, 9, 10, 11, 24, 25, 26] | 5 => some [1, 2, 9, 10, 11, 24, 25, 26, 27] | 6 => some [1, 2, 9, 10, 11, 13, 24, 25, 26] | 7 => some [1, 2, 9, 10, 11, 13, 14, 15, 24, 25, 26] | 8 => some [1, 2, 9, 10, 11, 13, 14, 15, 24, 25, 26] | 9 => some [1, 2, 9, 10, 11, 13, 14, 15, 24, 25, 26] | 10 => some [1, 2, 9, 10, 11, 13, 15, 24, 25, 26] | 11 => some [1, 2, 9, 10, 11, 15, 24, 25, 26, 52] | 12 => some [1, 2, 9, 10, 11, 15, 24, 25, 26] | 13 => some [1, 2, 9, 10, 11, 24, 25, 26] | 14 => some [1, 2, 9, 10, 11, 24, 25, 26] | 15 => some [9, 10, 61] | 16 => some [9] | 17 => some [8] | _ => none)
  | 46 => (match r with | 0 => some [0] | 1 => some [0, 6] | 2 => some [2, 3] | 3 => some [2, 3] | _ => none)
  | 47 => (match r with | 0 => some [0] | 1 => some [0, 3] | 2 => some [0, 3, 7] | 3 => some [0, 3] | 4 => some [0, 3, 70] | 5 => some [2] | 6 => some [2] | _ => none)
  | 48 => (match r with | 0 => some [0, 3] | 1 => some [0, 3, 5] | 2 => some [0, 3, 5, 6] | 3 => some [0, 3, 5, 6, 18] | 4 => some [0, 3, 5, 6] | 5 => some [0, 3, 5, 6, 49] | 6 => some [4] | 7 => some [4] | _ => none)
  | 49 => (match r with | 0 => some [0, 1] | 1 => some [1, 5] | 2 => some [1, 5, 6] | 3 => some [1, 5, 6, 11] | 4 => some [1, 5, 6] | 5 => some [1, 5, 6] | 6 => some [4] | _ => none)
  | 50 => (match r with | 0 => some [0] | 1 => some [0, 3] | 2 => some [3, 7] | 3 => some [2] | 4 => some [2] | _ => none)
  | 51 => (match r with | 0 => some [0, 1, 2] | 1 => some [0, 1, 2, 8] | 2 => some [0, 1, 2, 8, 9, 10] | 3 => some [0, 1, 2, 8, 9, 10, 17] | 4 => some [0, 1, 2, 8, 9, 10, 11] | 5 => some [0, 1, 2, 8, 9, 10, 11, 31] | 6 => some [0, 1, 2, 8, 9, 10] | 7 => some [0, 1, 2, 8, 9, 10] | 8 => some [6, 7] | _ => none)
  | 52 => (match r with | 0 => some [1, 2] | 1 => some [8] | 2 => some [4] | 3 => some [4] | _ => none)
  | 53 => (match r with | 0 => some [0, 1, 2, 4] | 1 => some [0, 4, 12, 13, 14] | 2 => some [0, 4, 12, 13, 14, 15] | 3 => some [0, 4, 6, 12, 13, 14] | 4 => some [0, 4, 12, 13, 14, 18, 19, 20] | 5 => some [0, 4, 12, 13, 14, 18, 19, 20, 21] | 6 => some [0, 4, 8, 12, 13, 14, 18, 19, 20] | 7 => some [0, 4, 12, 13, 14, 18, 19, 20] | 8 => some [0, 4, 12, 13, 14, 18, 19, 20] | 9 => some [0, 4, 12, 13, 14] | 10 => some [0, 4] | 11 => some [0, 4] | 12 => some [0, 4, 9] | 13 => some [0, 4, 9, 40] | 14 => some [0, 4, 9] | 15 => some [0, 4, 9, 54] | _ => none)
  | 54 => (match r with | 0 => some [0, 2] | 1 => some [] | _ => none)
  | 55 => (match r with | 0 => some [0] | 1 => some [0, 8] | 2 => some [2] | 3 => some [0, 3] | 4 => some [0, 3, 13] | 5 => some [0, 3] | 6 => some [0, 3, 25] | 7 => some [0, 3, 4] | 8 => some [0, 3, 4, 5] | 9 => some [0, 3, 4, 5, 32] | 10 => some [0, 3, 4, 5] | 11 => some [0, 3, 4, 5, 44] | 12 => some [0, 3, 4, 5] | 13 => some [0, 3, 4, 5] | 14 => some [0, 3] | 15 => some [2] | 16 => some [2] | _ => none)
  | 56 => (match r with | 0 => some [0] | 1 => some [0, 3] | 2 => some [0, 3, 4] | 3 => some [0, 3, 4, 9] | 4 => some [0, 3, 4, 5] | 5 => some [0, 3, 4, 5, 14] | 6 => some [2] | 7 => some [0, 3, 4] | 8 => some [0, 3, 4] | 9 => some [2] | _ => none)
  | 57 => (match r with | 0 => some [0, 1] | 1 => some [0, 1, 5] | 2 => some [0, 1, 5, 6] | 3 => some [0, 1, 5, 6, 7] | 4 => some [0, 1, 5, 6, 7, 11] | 5 => some [0, 1, 5, 6, 7] | 6 => some [0, 1, 5, 6, 7, 23] | 7 => some [0, 1, 5, 7] | 8 => some [0, 1, 5, 6, 7] | 9 => some [0, 1, 5, 6, 7, 33] | 10 => some [0, 1, 5, 6, 7] | 11 => some [1, 5, 42] | 12 => some [5] | 13 => some [4] | _ => none)
  | 58 => (match r with | 0 => some [0, 1, 2, 7] | 1 => some [0, 1, 2, 7, 13] | 2 => some [8] | 3 => some [0, 1, 2, 7, 9] | 4 => some [0, 1, 2, 7, 9, 37] | 5 => some [2, 9, 10] | 6 => some [10] | 7 => some [8] | 8 => some [8] | _ => none)
  | 59 => (match r with | 0 => some [1] | 1 => some [2] | _ => none)
  | 60 => (match r with | 0 => some [0, 1] | 1 => some [0, 1, 7, 8] | 2 => some [0, 1, 7, 8, 9] | 3 => some [0, 1, 5, 7, 8] | 4 => some [0, 1, 5, 7, 8, 16] | 5 => some [4] | 6 => some [0, 1, 7, 8] | 7 => some [4] | _ => none)
  | 61 => (match r with | 0 => some [1] | 1 => some [2] | _ => none)
  | 62 => (match r with | 0 => some [0, 1, 4] | 1 => some [0, 1, 4] | 2 => some [4] | 3 => some [4] | _ => none)
  | 63 => (match r with | 0 => some [] | _ => none)
  | 64 => (match r with | 0 => some [0, 1, 2, 3, 8] | 1 => some [0, 1, 2, 3, 8, 9] | 2 => some [0, 1, 2, 3, 8, 9, 10] | 3 => some [0, 1, 2, 3, 8, 9, 10, 23] | 4 => some [] | 5 => some [0, 1, 2, 3, 8, 9, 10, 29] | 6 => some [] | 7 => some [0, 1, 2, 3, 8, 9, 10, 35] | 8 => some [0, 1, 2, 3, 8, 9, 10] | 9 => some [0, 1, 2, 3, 8, 9, 10] | 10 => some [0, 1, 2, 3, 8, 9, 10, 11, 12] | 11 => some [0, 1, 2, 3, 8, 9, 10, 11, 12, 50] | 12 => some [0, 1, 2, 3, 8, 9, 10, 11] | 13 => some [0, 1, 2, 3, 8, 9, 10, 11] | 14 => some [0, 1, 2, 3, 8, 9, 10, 11, 12] | 15 => some [0, 1, 2, 3, 8, 9, 10, 11, 68] | 16 => some [0, 1, 2, 3, 8, 9, 10, 11, 72] | 17 => some [0, 1, 2, 3, 8, 9, 10, 11, 87] | 18 => some [0, 2, 3, 8, 9, 13] | 19 => some [0, 1, 2, 3, 8, 9] | 20 => some [0, 1, 2, 3, 10, 14, 15] | 21 => some [0, 1, 2, 3, 9, 10, 14] | 22 => some [0, 1, 2, 3, 9, 10, 14, 16, 17] | 23 => some [0, 1, 2, 3, 9, 14, 16, 17, 18] | 24 => some [0, 1, 2, 3, 9, 14, 16, 17, 18, 113] | 25 => some [0, 1, 2, 3, 8, 9, 14] | 26 => some [0, 2, 3, 8, 9, 14] | 27 => some [0, 1, 2, 3, 8, 9] | 28 => some [0, 1, 2, 3, 8, 9, 14] | 29 => some [0, 1, 3, 8, 9, 14] | 30 => some [0, 1, 2, 3, 8, 9] | _ => none)
  | 65 => (match r with | 0 => some [0] | 1 => some [2] | 2 => some [2] | _ => none)
  | 66 => (match r with | 0 => some [0, 1] | 1 => some [0, 1, 17] | 2 => some [4] | 3 => some [0, 1, 5] | 4 => some [0, 1, 5] | 5 => some [4] | 6 => some [0, 1, 5, 23] | 7 => some [4] | 8 => some [0, 1, 5, 26] | 9 => some [0, 1, 6, 7, 8] | 10 => some [0, 1, 5, 35] | 11 => some [0, 1, 6, 7, 8] | 12 => some [0, 1, 5, 44] | 13 => some [0, 1, 6, 7, 8] | 14 => some [0, 1, 6, 7, 8, 9] | 15 => some [0, 1, 6, 7, 8, 9, 55] | 16 => some [0, 1, 6, 7, 8, 9] | 17 => some [0, 1, 6, 7, 8, 9, 73] | 18 => some [4] | 19 => some [0, 1, 6, 7, 8, 9] | 20 => some [6, 98] | 21 => some [4] | 22 => some [4] | _ => none)
  | 67 => (match r with | 0 => some [0, 1] | 1 => some [0, 1, 4] | 2 => some [0] | 3 => some [] | _ => none)
  | 68 => (match r with | 0 => some [0, 1, 9] | 1 => some [0, 1, 9, 10, 11] | 2 => some [0, 1, 4, 5, 9] | 3 => some [0, 1, 4, 5, 9, 15] | 4 => some [0, 1, 4, 5, 7, 9] | 5 => some [0, 1, 4, 5, 9, 24] | 6 => some [0, 1, 4, 5, 9] | 7 => some [0, 1, 9] | _ => none)
  | 69 => (match r with | 0 => some [0, 1, 2, 6] | 1 => some [0, 1, 2, 6, 12] | 2 => some [0, 1, 2, 6] | 3 => some [0, 1, 2, 6, 7] | 4 => some [0, 1, 2, 6, 7, 30] | 5 => some [0, 1, 2, 6, 7] | 6 => some [0, 1, 2, 6, 7] | _ => none)
  | 70 => (match r with | 0 => some [0, 1, 2, 6] | 1 => some [0, 1, 2, 6, 7] | 2 => some [0, 6, 7, 8] | 3 => some [0, 6, 7, 8, 9] | 4 => some [0, 6, 7, 8, 9, 19] | 5 => some [0, 6, 7, 8, 9] | 6 => some [0, 6, 7, 8, 9] | 7 => some [0, 6, 7, 10] | 8 => some [0, 6, 7, 10, 30] | 9 => some [0, 6, 7, 10] | 10 => some [0, 6, 7, 10] | 11 => some [0, 6, 7, 10] | _ => none)
  | 71 => (match r with | 0 => some [0, 1, 6] | 1 => some [0, 1, 6, 15] | 2 => some [0, 1, 6, 7] | 3 => some [0, 1, 6, 7, 8] | 4 => some [0, 1, 6, 7, 8, 9] | 5 => some [0, 1, 6, 7, 8, 9, 33] | 6 => some [0, 1, 6, 7, 8, 9] | 7 => some [0, 1, 6, 7, 8, 9, 10] | 8 => some [0, 1, 6, 7, 8, 9, 10, 43] | 9 => some [0, 1, 6, 7, 8, 9, 10] | 10 => some [0, 1, 6, 7, 8, 9] | _ => none)
  | 72 => (match r with | 0 => some [0, 1, 2] | 1 => some [0, 1, 8] | 2 => some [0, 1, 8, 9] | 3 => some [0, 1, 8, 9, 10] | 4 => some [0, 1, 8, 9, 10, 11] | 5 => some [0, 8, 9, 10, 11, 12] | 6 => some [0, 8, 9, 10, 11, 12, 32] | 7 => some [0, 9, 10, 11, 12, 34] | 8 => some [0, 9, 10, 11, 12] | 9 => some [0, 9, 10, 11, 12] | 10 => some [0, 9, 10, 11, 12] | 11 => some [9, 11] | 12 => some [11, 49] | 13 => some [6, 7] | 14 => some [11, 49, 51] | 15 => some [6, 7] | 16 => some [11, 54] | 17 => some [6, 7] | _ => none)
  | 73 => (match r with | 0 => some [0, 2, 6] | 1 => some [0, 6, 7] | 2 => some [0, 6, 7, 13] | 3 => some [0, 6, 7] | 4 => some [0, 6, 7] | 5 => some [0, 6, 7] | _ => none)
  | 74 => (match r with | 0 => some [0, 1, 2] | 1 => some [0, 1, 2, 7] | 2 => some [0, 1, 2, 7, 8] | 3 => some [0, 1, 2, 7, 8, 14] | 4 => some [0, 1, 2, 7, 8] | 5 => some [0, 1, 2, 7, 8, 32] | 6 => some [0, 1, 2, 7, 8] | 7 => some [0, 1, 2, 7, 8, 37] | 8 => some [6] | 9 => some [0, 1, 2, 7, 8, 41] | 10 => some [6] | 11 => some [0, 1, 2, 7, 8] | 12 => some [0, 1, 2, 7, 8, 61] | 13 => some [0, 1, 2, 7, 8, 9] | 14 => some [0, 1, 2, 7, 8, 9, 65] | 15 => some [0, 1, 2, 7, 8, 9] | 16 => some [0, 1, 2, 7, 8, 9, 78] | 17 => some [0, 1, 2, 7, 8, 9] | 18 => some [0, 1, 2, 7, 8, 98] | 19 => some [0, 1, 2, 7, 8, 10] | 20 => some [0, 1, 2, 7, 8, 10, 103] | 21 => some [0, 1, 2, 7, 8, 10] | 22 => some [0, 1, 2, 7, 8, 10, 116] | 23 => some [0, 1, 2, 7, 8, 10] | 24 => some [6] | _ => none)
  | 75 => (match r with | 0 => some [0, 1] | 1 => some [4] | _ => none)
  | 76 => (match r with | 0 => some [0, 1, 2, 3] | 1 => some [0, 1, 2] | 2 => some [0, 1, 9, 10] | 3 => some [0, 1, 9, 10, 43] | 4 => some [0, 1, 9, 10] | 5 => some [0, 1, 9, 10, 59] | 6 => some [0, 1, 9, 10] | 7 => some [0, 1, 9, 10, 64] | 8 => some [0, 1, 9, 10] | 9 => some [0, 1, 9, 10] | 10 => some [0, 1, 9, 10] | 11 => some [8] | _ => none)
  | 77 => (match r with | 0 => some [0, 1, 2, 3] | 1 => some [0, 1, 2] | 2 => some [0, 1, 10, 11] | 3 => some [0, 1, 10, 11, 43] | 4 => some [0, 1, 10, 11] | 5 => some [0, 1, 10, 11, 60] | 6 => some [0, 1, 10, 11] | 7 => some [0, 1, 10, 11, 65] | 8 => some [11] | 9 => some [8, 9] | 10 => some [0, 1, 10, 11] | 11 => some [0, 1, 10, 11] | 12 => some [0, 1, 10, 11] | 13 => some [0, 1, 10, 11, 112] | 14 => some [0, 1, 10, 11] | 15 => some [0, 1, 10, 11, 129] | 16 => some [0, 1, 10, 11] | 17 => some [0, 1, 10, 11, 134] | 18 => some [0, 1, 10, 11] | 19 => some [0, 1, 10, 11] | 20 => some [0, 1, 10, 11] | 21 => some [11] | 22 => some [8, 9] | _ => none)
  | 78 => (match r with | 0 => some [0, 2] | 1 => some [0, 2, 4] | 2 => some [0] | 3 => some [0, 2] | 4 => some [0, 2, 8] | 5 => some [0, 2] | 6 => some [0, 2] | 7 => some [2] | _ => none)
  | 79 => (match r with | 0 => some [0, 2] | 1 => some [0, 2, 4] | 2 => some [0] | 3 => some [0, 2] | 4 => some [0, 2, 8] | 5 => some [0, 2] | 6 => some [0, 2] | 7 => some [0, 2, 14] | 8 => some [0, 2] | 9 => some [0, 2] | 10 => some [2] | _ => none)
  | 80 => (match r with | 0 => some [0] | 1 => some [0, 10] | 2 => some [2, 3] | 3 => some [2, 3] | _ => none)
  | 81 => (match r with | 0 => some [0, 2, 3, 8] | 1 => some [0, 2, 3, 8, 9] | 2 => some [0, 2, 3, 8, 9, 16] | 3 => some [0, 2, 3, 8, 9, 36] | 4 => some [0, 2, 3, 8, 9] | 5 => some [0, 2, 3, 8, 9, 52] | 6 => some [0, 2, 3, 9] | 7 => some [0, 2, 3, 8] | _ => none)
  | 82 => (match r with | 0 => some [0] | 1 => some [2] | _ => none)
  | 83 => (match r with | 0 => some [0] | 1 => some [0] | 2 => some [0] | 3 => some [0] | 4 => some [2] | _ => none)
  | 84 => (match r with | 0 => some [0, 1, 2] | 1 => some [6] | _ => none)
  | 85 => (match r with | 0 => some [0, 1, 2, 3, 4] | 1 => some [0, 1, 2, 3, 4] | 2 => some [0, 1, 2, 4] | 3 => some [2] | 4 => some [10] | _ => none)
  | 86 => (match r with | 0 => some [0] | 1 => some [2] | _ => none)
  | 87 => (match r with | 0 => some [0] | 1 => some [0, 4] | 2 => some [0, 4, 16] | 3 => some [2, 3] | 4 => some [0, 4, 5] | 5 => some [0, 4, 5, 6] | 6 => some [0, 4, 5, 6, 23] | 7 => some [0, 7] | 8 => some [2, 3] | 9 => some [0, 4, 5, 6, 8] | 10 => some [0, 4, 5, 8, 9] | 11 => some [0, 5, 8, 9, 45] | 12 => some [2, 3] | 13 => some [0, 5, 8, 9, 10] | 14 => some [0, 5, 8, 10, 57] | 15 => some [2, 3] | 16 => some [0, 5, 8, 10, 59] | 17 => some [2, 3] | 18 => some [0, 5, 8, 10, 11] | 19 => some [0, 5, 8, 10, 11, 75] | 20 => some [2, 3] | 21 => some [0, 5, 10, 11, 77] | 22 => some [2, 3] | 23 => some [5, 10, 11, 12] | 24 => some [5, 10, 11, 12, 98] | 25 => some [2, 3] | 26 => some [2, 3] | _ => none)
  | 88 => (match r with | 0 => some [0, 1, 2, 3] | 1 => some [1, 2, 3, 18] | 2 => some [1, 2] | 3 => some [8, 9] | 4 => some [8, 9] | _ => none)
  | _ => none
def hd : FuncId → Nat → Option (List Nat) := fun g r => match g with
  | 3 => (match r with | 6 => some [0, 1, 5, 6, 7] | 15 => some [0, 1, 5, 16, 17] | _ => none)
  | 7 => (match r with | 4 => some [0, 1, 2, 7] | _ => none)
  | 8 => (match r with | 7 => some [0, 1, 5, 6, 7, 8, 9] | _ => none)
  | 9 => (match r with | 4 => some [0, 3] | _ => none)
  | 10 => (match r with | 4 => some [0, 9, 10, 11] | _ => none)
  | 13 => (match r with | 7 => some [2, 3, 4, 5, 20] | _ => none)
  | 14 => (match r with | 4 => some [0, 1, 5] | _ => none)
  | 17 => (match r with | 5 => some [1, 2, 7, 13, 14, 15] | _ => none)
  | 22 => (match r with | 5 => some [0, 1, 2, 7, 8] | _ => none)
  | 23 => (match r with | 7 => some [6, 22, 23, 24] | _ => none)
  | 24 => (match r with | 4 => some [0, 1, 6] | 10 => some [1, 7, 8] | _ => none)
  | 25 => (match r with | 4 => some [0, 1, 5] | _ => none)
  | 26 => (match r with | 6 => some [0, 1, 5, 6, 7] | _ => none)
  | 34 => (match r with | 4 => some [0, 3] | _ => none)
  | 38 => (match r with | 4 => some [0, 1, 2, 7, 9, 10, 11] | _ => none)
  | 39 => (match r with | 2 => some [0, 1, 4, 5] | _ => none)
  | 40 => (match r with | 3 => some [3, 6, 7, 8] | _ => none)
  | 43 => (match r with | 5 => some [2, 3, 4, 18] | _ => none)
  | 45 => (match r with | 5 => some [1, 2, 9, 10, 11, 24, 25, 26] | _ => none)
  | 47 => (match r with | 2 => some [0, 3] | _ => none)
  | 48 => (match r with | 3 => some [0, 3, 5, 6] | _ => none)
  | 49 => (match r with | 3 => some [1, 5, 6] | _ => none)
  | 51 => (match r with | 3 => some [0, 1, 2, 8, 9, 10] | _ => none)
  | 53 => (match r with | 2 => some [0, 4, 12, 13, 14] | 5 => some [0, 4, 12, 13, 14, 18, 19, 20] | 13 => some [0, 4, 9] | _ => none)
  | 55 => (match r with | 4 => some [0, 3] | 9 => some [0, 3, 4, 5] | _ => none)
  | 56 => (match r with | 3 => some [0, 3, 4] | _ => none)
  | 57 => (match r with | 4 => some [0, 1, 5, 6, 7] | _ => none)
  | 60 => (match r with | 2 => some [0, 1, 7, 8] | _ => none)
  | 64 => (match r with | 2 => some [0, 1, 2, 3, 8, 9] | _ => none)
  | 66 => (match r with | 15 => some [0, 1, 6, 7, 8, 9] | _ => none)
  | 68 => (match r with | 1 => some [0, 1, 9] | _ => none)
  | 69 => (match r with | 1 => some [0, 1, 2, 6] | 4 => some [0, 1, 2, 6, 7] | _ => none)
  | 70 => (match r with | 4 => some [0, 6, 7, 8, 9] | 8 => some [0, 6, 7, 10] | _ => none)
  | 71 => (match r with | 5 => some [0, 1, 6, 7, 8, 9] | _ => none)
  | 73 => (match r with | 2 => some [0, 6, 7] | _ => none)
  | 74 => (match r with | 3 => some [0, 1, 2, 7, 8] | 5 => some [0, 1, 2, 7, 8] | 14 => some [0, 1, 2, 7, 8, 9] | 20 => some [0, 1, 2, 7, 8, 10] | _ => none)
  | 76 => (match r with | 3 => some [0, 1, 9, 10] | 5 => some [0, 1, 9, 10] | _ => none)
  | 77 => (match r with | 3 => some [0, 1, 10, 11] | 5 => some [0, 1, 10, 11] | 13 => some [0, 1, 10, 11] | 15 => some [0, 1, 10, 11] | _ => none)
  | 81 => (match r with | 1 => some [0, 2, 3, 8] | _ => none)
  | _ => none
def ow : FuncId → Nat → Bool := fun g s => match g with
  | 3 => (match s with | 6 => true | 41 => true | _ => false)
  | 6 => (match s with | 9 => true | 32 => true | _ => false)
  | 8 => (match s with | 8 => true | _ => false)
  | 13 => (match s with | 5 => true | _ => false)
  | 17 => (match s with | 7 => true | _ => false)
  | 22 => (match s with | 7 => true | _ => false)
  | 24 => (match s with | 7 => true | 30 => true | _ => false)
  | 26 => (match s with | 6 => true | _ => false)
  | 33 => (match s with | 0 => true | 4 => true | _ => false)
  | 44 => (match s with | 2 => true | 5 => true | _ => false)
  | 53 => (match s with | 4 => true | _ => false)
  | 57 => (match s with | 5 => true | _ => false)
  | 58 => (match s with | 8 => true | 10 => true | 38 => true | 47 => true | _ => false)
  | _ => false
def br : FuncId → Nat → Bool := fun g s => match g with
  | 33 => (match s with | 0 => true | _ => false)
  | 46 => (match s with | 0 => true | _ => false)
  | 54 => (match s with | 0 => true | _ => false)
  | 55 => (match s with | 0 => true | _ => false)
  | 64 => (match s with | 0 => true | _ => false)
  | 69 => (match s with | 0 => true | _ => false)
  | _ => false
def fz : FuncId → Bool := fun g => match g with
  | 31 => false
  | _ => true
def sp : FuncId → Bool := fun g => match g with
  | 44 => true
  | _ => false
def fx : FuncId → List (List Nat) := fun g => match g with
  | 3 => [[5], [5]]
  | 4 => [[5]]
  | 5 => [[5]]
  | 6 => [[5]]
  | 7 => [[5], [5], [8]]
  | 8 => [[5], [5]]
  | 9 => [[5]]
  | 10 => [[5]]
  | 12 => [[5]]
  | 13 => [[5], [5]]
  | 14 => [[5], [5]]
  | 15 => [[5]]
  | 16 => [[5]]
  | 17 => [[5]]
  | 18 => [[5]]
  | 19 => [[5]]
  | 20 => [[5]]
  | 21 => [[5]]
  | 22 => [[5]]
  | 23 => [[5], [8]]
  | 24 => [[5], [8]]
  | 25 => [[8], [8]]
  | 26 => [[5], [5]]
  | 30 => [[5]]
  | 31 => [[5], [5]]
  | 32 => [[5]]
  | 33 => [[5]]
  | 34 => [[5]]
  | 37 => [[5]]
  | 38 => [[5]]
  | 39 => [[5]]
  | 40 => [[8]]
  | 41 => [[8]]
  | 43 => [[5]]
  | 44 => [[5]]
  | 45 => [[5]]
  | 46 => [[5]]
  | 47 => [[8]]
  | 48 => [[5]]
  | 49 => [[1], [5]]
  | 51 => [[5]]
  | 54 => [[1]]
  | 55 => [[1]]
  | 57 => [[1]]
  | 58 => [[5]]
  | 60 => [[8]]
  | 64 => [[1]]
  | 69 => [[1]]
  | 70 => [[1]]
  | 71 => [[1]]
  | 72 => [[1]]
  | 73 => [[1]]
  | 74 => [[1]]
  | 76 => [[1]]
  | 77 => [[1]]
  | 81 => [[1]]
  | 84 => [[1]]
  | 85 => [[1]]
  | 88 => [[1]]
  | _ => []
def wk : FuncId → List (List Nat) := fun g => match g with
  | 13 => [[8]]
  | 15 => [[5]]
  | 16 => [[5]]
  | 17 => [[5]]
  | 18 => [[5]]
  | 19 => [[5]]
  | 22 => [[5]]
  | 23 => [[5]]
  | 24 => [[5]]
  | 26 => [[8]]
  | 32 => [[5]]
  | 33 => [[5]]
  | 37 => [[5]]
  | 38 => [[5]]
  | 44 => [[5]]
  | 45 => [[5]]
  | 46 => [[5]]
  | 49 => [[1]]
  | 55 => [[1]]
  | 57 => [[1]]
  | 58 => [[5]]
  | _ => []
def sh : TypeId → Option (List Sk) := fun t => match t with
  | 3 => some [.int .i64]
  | 4 => some [.bool]
  | 5 => some [.int .u8]
  | 9 => some [.str]
  | 21 => some [.int .i32]
  | 22 => some [.slx 5]
  | 24 => some [.int .i64]
  | 27 => some [.int .i64]
  | 29 => some [.int .i64, .int .i64, .str]
  | 33 => some [.int .i64, .int .i64, .int .i64, .int .i64, .str]
  | 34 => some [.slx 8]
  | 37 => some [.int .i64, .int .i64, .int .i64, .int .i64, .str, .int .i64, .int .i64, .str]
  | 70 => some [.slx 1]
  | 76 => some [.slx 1]
  | 83 => some [.int .u64]
  | 88 => some [.int .i64]
  | 92 => some [.int .i64]
  | 99 => some [.int .u32]
  | 101 => some [.int .u64]
  | 104 => some [.int .u64]
  | 116 => some [.int .u8, .int .u8]
  | _ => none
noncomputable def E0 (ext : FuncId → Option (List V → Hp → Option (List V × Hp))) (seq : FuncId → List V → Hp → Option (List (List V))) : Env := ⟨T, B, lv, hd, ow, br, fz, sp, fx, wk, ext, seq⟩
theorem env_ok {K : World → Prop} {ext : FuncId → Option (List V → Hp → Option (List V × Hp))} {seq : FuncId → List V → Hp → Option (List (List V))} (h : ∀ g f args H vals H', ext g = some f → f args H = some (vals, H') → Enter Tryd.prog g ∧ Sound Tryd.prog K g args H vals H') : EnvOk Tryd.prog K (E0 ext seq) := ⟨T_ok, B_ok, B_enter, h⟩
end Go.Proofs.YtedniogmjhhhmaaDoor
