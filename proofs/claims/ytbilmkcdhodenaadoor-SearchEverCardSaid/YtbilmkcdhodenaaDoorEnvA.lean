/-
  The environment of this seat for EV, written by a program: its types, its functions, the slots that live on. Nothing here is trusted: 'env_ok' says that the types and functions are the program's.
-/
import Derived.Test.YtbilmkcdhodenaaDoorEvN
import Derived.Test.YtbilmkcdhodenaaDoorProg
import Derived.KernelRfl
set_option linter.all false
set_option linter.unusedSimpArgs false
set_option linter.unusedVariables false
namespace Go.Proofs.YtbilmkcdhodenaaDoor
open Go.Ev

def T : TypeId → Option Ty := fun t => match t with
  | 1 => some ⟨.other, 1, 8, [], [.fnil], []⟩
  | 3 => some ⟨.int .i64, 1, 8, [.int], [.int .i64 0], []⟩
  | 4 => some ⟨.bool, 1, 1, [.bool], [.bool false], []⟩
  | 5 => some ⟨.int .u8, 1, 1, [.int], [.int .u8 0], []⟩
  | 9 => some ⟨.str, 1, 16, [.str], [.str []], []⟩
  | 20 => some ⟨.other, 1, 16, [], [.inil], []⟩
  | 21 => some ⟨.int .i32, 1, 4, [.int], [.int .i32 0], []⟩
  | 22 => some ⟨.slice 45, 1, 24, [], [.sl 4 (some true) true []], []⟩
  | 26 => some ⟨.slice 58, 1, 24, [], [.sl 2 (some true) true []], []⟩
  | 27 => some ⟨.slice 51, 1, 24, [], [.sl 3 (some true) true []], []⟩
  | 29 => some ⟨.struct [(0, 1, false), (1, 1, false)], 2, 48, [], [.sl 2 (some true) true [], .sl 3 (some true) true []], []⟩
  | 30 => some ⟨.int .i64, 1, 8, [.int], [.int .i64 0], []⟩
  | 32 => some ⟨.struct [(0, 1, false), (1, 1, false), (2, 1, false)], 3, 32, [.int, .int, .str], [.int .i64 0, .int .i64 0, .str []], []⟩
  | 33 => some ⟨.struct [(0, 1, false), (1, 1, false)], 2, 48, [], [.sl 2 (some true) true [], .sl 3 (some true) true []], []⟩
  | 40 => some ⟨.slice 3, 1, 24, [], [.sl 1 (some true) true []], []⟩
  | 45 => some ⟨.struct [(0, 1, false), (1, 3, true)], 4, 40, [.int, .int, .int, .str], [.int .i64 0, .int .i64 0, .int .i64 0, .str []], []⟩
  | 49 => some ⟨.slice 148, 1, 24, [], [.sl 5 (some true) true []], []⟩
  | 51 => some ⟨.struct [(0, 1, false), (1, 1, false), (2, 1, false)], 3, 64, [], [.str [], .sl 5 (some true) true [], .sl 3 (some true) true []], []⟩
  | 53 => some ⟨.int .i64, 1, 8, [.int], [.int .i64 0], []⟩
  | 58 => some ⟨.struct [(0, 1, false), (1, 1, false)], 2, 32, [], [.sl 1 (some true) true [], .int .i64 0], []⟩
  | 94 => some ⟨.other, 1, 8, [], [.fnil], []⟩
  | 96 => some ⟨.other, 1, 8, [], [.fnil], []⟩
  | 113 => some ⟨.other, 1, 8, [], [.fnil], []⟩
  | 132 => some ⟨.int .u64, 1, 8, [.int], [.int .u64 0], []⟩
  | 133 => some ⟨.other, 1, 8, [], [.fnil], []⟩
  | 144 => some ⟨.other, 1, 8, [], [.fnil], []⟩
  | 148 => some ⟨.struct [(0, 1, false), (1, 1, false), (2, 3, true)], 5, 48, [.int, .int, .int, .int, .str], [.int .i64 0, .int .i64 0, .int .i64 0, .int .i64 0, .str []], []⟩
  | 179 => some ⟨.slice 182, 1, 24, [], [.sl 2 (some true) true []], []⟩
  | 182 => some ⟨.struct [(0, 1, false), (1, 1, false)], 2, 40, [], [.str [], .sl 5 (some true) true []], []⟩
  | 206 => some ⟨.other, 1, 8, [], [.fnil], []⟩
  | 208 => some ⟨.other, 1, 8, [], [.fnil], []⟩
  | 236 => some ⟨.other, 1, 8, [], [.fnil], []⟩
  | 239 => some ⟨.struct [(0, 1, false)], 1, 8, [.int], [.int .i64 0], []⟩
  | 245 => some ⟨.array 256 5, 256, 256, [], [], [.int .u8 0]⟩
  | 247 => some ⟨.struct [(0, 1, false), (1, 1, false)], 2, 2, [.int, .int], [.int .u8 0, .int .u8 0], []⟩
  | 248 => some ⟨.array 16 247, 32, 32, [], [], [.int .u8 0, .int .u8 0]⟩
  | _ => none

theorem ty1 : tyOf Tryd.prog 1 = some ⟨.other, 1, 8, [], [.fnil], []⟩ := by kernel_rfl
theorem ty3 : tyOf Tryd.prog 3 = some ⟨.int .i64, 1, 8, [.int], [.int .i64 0], []⟩ := by kernel_rfl
theorem ty4 : tyOf Tryd.prog 4 = some ⟨.bool, 1, 1, [.bool], [.bool false], []⟩ := by kernel_rfl
theorem ty5 : tyOf Tryd.prog 5 = some ⟨.int .u8, 1, 1, [.int], [.int .u8 0], []⟩ := by kernel_rfl
theorem ty9 : tyOf Tryd.prog 9 = some ⟨.str, 1, 16, [.str], [.str []], []⟩ := by kernel_rfl
theorem ty20 : tyOf Tryd.prog 20 = some ⟨.other, 1, 16, [], [.inil], []⟩ := by kernel_rfl
theorem ty21 : tyOf Tryd.prog 21 = some ⟨.int .i32, 1, 4, [.int], [.int .i32 0], []⟩ := by kernel_rfl
theorem ty22 : tyOf Tryd.prog 22 = some ⟨.slice 45, 1, 24, [], [.sl 4 (some true) true []], []⟩ := by kernel_rfl
theorem ty26 : tyOf Tryd.prog 26 = some ⟨.slice 58, 1, 24, [], [.sl 2 (some true) true []], []⟩ := by kernel_rfl
theorem ty27 : tyOf Tryd.prog 27 = some ⟨.slice 51, 1, 24, [], [.sl 3 (some true) true []], []⟩ := by kernel_rfl
theorem ty29 : tyOf Tryd.prog 29 = some ⟨.struct [(0, 1, false), (1, 1, false)], 2, 48, [], [.sl 2 (some true) true [], .sl 3 (some true) true []], []⟩ := by kernel_rfl
theorem ty30 : tyOf Tryd.prog 30 = some ⟨.int .i64, 1, 8, [.int], [.int .i64 0], []⟩ := by kernel_rfl
theorem ty32 : tyOf Tryd.prog 32 = some ⟨.struct [(0, 1, false), (1, 1, false), (2, 1, false)], 3, 32, [.int, .int, .str], [.int .i64 0, .int .i64 0, .str []], []⟩ := by kernel_rfl
theorem ty33 : tyOf Tryd.prog 33 = some ⟨.struct [(0, 1, false), (1, 1, false)], 2, 48, [], [.sl 2 (some true) true [], .sl 3 (some true) true []], []⟩ := by kernel_rfl
theorem ty40 : tyOf Tryd.prog 40 = some ⟨.slice 3, 1, 24, [], [.sl 1 (some true) true []], []⟩ := by kernel_rfl
theorem ty45 : tyOf Tryd.prog 45 = some ⟨.struct [(0, 1, false), (1, 3, true)], 4, 40, [.int, .int, .int, .str], [.int .i64 0, .int .i64 0, .int .i64 0, .str []], []⟩ := by kernel_rfl
theorem ty49 : tyOf Tryd.prog 49 = some ⟨.slice 148, 1, 24, [], [.sl 5 (some true) true []], []⟩ := by kernel_rfl
theorem ty51 : tyOf Tryd.prog 51 = some ⟨.struct [(0, 1, false), (1, 1, false), (2, 1, false)], 3, 64, [], [.str [], .sl 5 (some true) true [], .sl 3 (some true) true []], []⟩ := by kernel_rfl
theorem ty53 : tyOf Tryd.prog 53 = some ⟨.int .i64, 1, 8, [.int], [.int .i64 0], []⟩ := by kernel_rfl
theorem ty58 : tyOf Tryd.prog 58 = some ⟨.struct [(0, 1, false), (1, 1, false)], 2, 32, [], [.sl 1 (some true) true [], .int .i64 0], []⟩ := by kernel_rfl
theorem ty94 : tyOf Tryd.prog 94 = some ⟨.other, 1, 8, [], [.fnil], []⟩ := by kernel_rfl
theorem ty96 : tyOf Tryd.prog 96 = some ⟨.other, 1, 8, [], [.fnil], []⟩ := by kernel_rfl
theorem ty113 : tyOf Tryd.prog 113 = some ⟨.other, 1, 8, [], [.fnil], []⟩ := by kernel_rfl
theorem ty132 : tyOf Tryd.prog 132 = some ⟨.int .u64, 1, 8, [.int], [.int .u64 0], []⟩ := by kernel_rfl
theorem ty133 : tyOf Tryd.prog 133 = some ⟨.other, 1, 8, [], [.fnil], []⟩ := by kernel_rfl
theorem ty144 : tyOf Tryd.prog 144 = some ⟨.other, 1, 8, [], [.fnil], []⟩ := by kernel_rfl
theorem ty148 : tyOf Tryd.prog 148 = some ⟨.struct [(0, 1, false), (1, 1, false), (2, 3, true)], 5, 48, [.int, .int, .int, .int, .str], [.int .i64 0, .int .i64 0, .int .i64 0, .int .i64 0, .str []], []⟩ := by kernel_rfl
theorem ty179 : tyOf Tryd.prog 179 = some ⟨.slice 182, 1, 24, [], [.sl 2 (some true) true []], []⟩ := by kernel_rfl
theorem ty182 : tyOf Tryd.prog 182 = some ⟨.struct [(0, 1, false), (1, 1, false)], 2, 40, [], [.str [], .sl 5 (some true) true []], []⟩ := by kernel_rfl
theorem ty206 : tyOf Tryd.prog 206 = some ⟨.other, 1, 8, [], [.fnil], []⟩ := by kernel_rfl
theorem ty208 : tyOf Tryd.prog 208 = some ⟨.other, 1, 8, [], [.fnil], []⟩ := by kernel_rfl
theorem ty236 : tyOf Tryd.prog 236 = some ⟨.other, 1, 8, [], [.fnil], []⟩ := by kernel_rfl
theorem ty239 : tyOf Tryd.prog 239 = some ⟨.struct [(0, 1, false)], 1, 8, [.int], [.int .i64 0], []⟩ := by kernel_rfl
theorem ty245 : tyOf Tryd.prog 245 = some ⟨.array 256 5, 256, 256, [], [], [.int .u8 0]⟩ := by kernel_rfl
theorem ty247 : tyOf Tryd.prog 247 = some ⟨.struct [(0, 1, false), (1, 1, false)], 2, 2, [.int, .int], [.int .u8 0, .int .u8 0], []⟩ := by kernel_rfl
theorem ty248 : tyOf Tryd.prog 248 = some ⟨.array 16 247, 32, 32, [], [], [.int .u8 0, .int .u8 0]⟩ := by kernel_rfl
theorem T_ok (t : TypeId) (y : Ty) (h : T t = some y) : tyOf Tryd.prog t = some y := by
  unfold T at h
  split at h <;> simp only [Option.some.injEq, reduceCtorEq] at h <;> subst h
  · exact ty1
  · exact ty3
  · exact ty4
  · exact ty5
  · exact ty9
  · exact ty20
  · exact ty21
  · exact ty22
  · exact ty26
  · exact ty27
  · exact ty29
  · exact ty30
  · exact ty32
  · exact ty33
  · exact ty40
  · exact ty45
  · exact ty49
  · exact ty51
  · exact ty53
  · exact ty58
  · exact ty94
  · exact ty96
  · exact ty113
  · exact ty132
  · exact ty133
  · exact ty144
  · exact ty148
  · exact ty179
  · exact ty182
  · exact ty206
  · exact ty208
  · exact ty236
  · exact ty239
  · exact ty245
  · exact ty247
  · exact ty248

noncomputable def B0 : FuncId → Option Func := fun g => match g with
  | 3 => some Tryd.f3
  | 4 => some Tryd.f4
  | 5 => some Tryd.f5
  | 6 => some Tryd.f6
  | 14 => some Tryd.f14
  | 15 => some Tryd.f15
  | 16 => some Tryd.f16
  | 17 => some Tryd.f17
  | 18 => some Tryd.f18
  | 19 => some Tryd.f19
  | 20 => some Tryd.f20
  | 21 => some Tryd.f21
  | 22 => some Tryd.f22
  | 23 => some Tryd.f23
  | 24 => some Tryd.f24
  | 25 => some Tryd.f25
  | 26 => some Tryd.f26
  | 27 => some Tryd.f27
  | 28 => some Tryd.f28
  | 29 => some Tryd.f29
  | 55 => some Tryd.f55
  | 56 => some Tryd.f56
  | 57 => some Tryd.f57
  | 58 => some Tryd.f58
  | 59 => some Tryd.f59
  | 60 => some Tryd.f60
  | 61 => some Tryd.f61
  | 62 => some Tryd.f62
  | 63 => some Tryd.f63
  | 64 => some Tryd.f64
  | 65 => some Tryd.f65
  | 66 => some Tryd.f66
  | 72 => some Tryd.f72
  | 90 => some Tryd.f90
  | 94 => some Tryd.f94
  | 98 => some Tryd.f98
  | 99 => some Tryd.f99
  | 100 => some Tryd.f100
  | 101 => some Tryd.f101
  | 102 => some Tryd.f102
  | 103 => some Tryd.f103
  | 104 => some Tryd.f104
  | 105 => some Tryd.f105
  | 106 => some Tryd.f106
  | 107 => some Tryd.f107
  | 108 => some Tryd.f108
  | 109 => some Tryd.f109
  | 110 => some Tryd.f110
  | 111 => some Tryd.f111
  | 112 => some Tryd.f112
  | 113 => some Tryd.f113
  | 133 => some Tryd.f133
  | 135 => some Tryd.f135
  | 136 => some Tryd.f136
  | 137 => some Tryd.f137
  | 138 => some Tryd.f138
  | 139 => some Tryd.f139
  | 140 => some Tryd.f140
  | 141 => some Tryd.f141
  | 142 => some Tryd.f142
  | 143 => some Tryd.f143
  | 144 => some Tryd.f144
  | 145 => some Tryd.f145
  | 146 => some Tryd.f146
  | 147 => some Tryd.f147
  | 148 => some Tryd.f148
  | 149 => some Tryd.f149
  | 170 => some Tryd.f170
  | 171 => some Tryd.f171
  | 172 => some Tryd.f172
  | _ => none
theorem B0_ok (g : FuncId) (fn : Func) (h : B0 g = some fn) : Tryd.prog.funcs[g]? = some fn := by
  unfold B0 at h
  split at h <;> simp only [Option.some.injEq, reduceCtorEq] at h <;> subst h
  · exact Tryd.func3
  · exact Tryd.func4
  · exact Tryd.func5
  · exact Tryd.func6
  · exact Tryd.func14
  · exact Tryd.func15
  · exact Tryd.func16
  · exact Tryd.func17
  · exact Tryd.func18
  · exact Tryd.func19
  · exact Tryd.func20
  · exact Tryd.func21
  · exact Tryd.func22
  · exact Tryd.func23
  · exact Tryd.func24
  · exact Tryd.func25
  · exact Tryd.func26
  · exact Tryd.func27
  · exact Tryd.func28
  · exact Tryd.func29
  · exact Tryd.func55
  · exact Tryd.func56
  · exact Tryd.func57
  · exact Tryd.func58
  · exact Tryd.func59
  · exact Tryd.func60
  · exact Tryd.func61
  · exact Tryd.func62
  · exact Tryd.func63
  · exact Tryd.func64
  · exact Tryd.func65
  · exact Tryd.func66
  · exact Tryd.func72
  · exact Tryd.func90
  · exact Tryd.func94
  · exact Tryd.func98
  · exact Tryd.func99
  · exact Tryd.func100
  · exact Tryd.func101
  · exact Tryd.func102
  · exact Tryd.func103
  · exact Tryd.func104
  · exact Tryd.func105
  · exact Tryd.func106
  · exact Tryd.func107
  · exact Tryd.func108
  · exact Tryd.func109
  · exact Tryd.func110
  · exact Tryd.func111
  · exact Tryd.func112
  · exact Tryd.func113
  · exact Tryd.func133
  · exact Tryd.func135
  · exact Tryd.func136
  · exact Tryd.func137
  · exact Tryd.func138
  · exact Tryd.func139
  · exact Tryd.func140
  · exact Tryd.func141
  · exact Tryd.func142
  · exact Tryd.func143
  · exact Tryd.func144
  · exact Tryd.func145
  · exact Tryd.func146
  · exact Tryd.func147
  · exact Tryd.func148
  · exact Tryd.func149
  · exact Tryd.func170
  · exact Tryd.func171
  · exact Tryd.func172
theorem B0_enter (g : FuncId) (fn : Func) (h : B0 g = some fn) (_ : fn.body.isSome = true) : (fn.name == "runtime.NumGoroutine") = false := by
  unfold B0 at h
  split at h <;> simp only [Option.some.injEq, reduceCtorEq] at h <;> subst h <;> kernel_rfl
noncomputable def B1 : FuncId → Option Func := fun g => match g with
  | 173 => some Tryd.f173
  | 174 => some Tryd.f174
  | 175 => some Tryd.f175
  | 176 => some Tryd.f176
  | 177 => some Tryd.f177
  | 178 => some Tryd.f178
  | 179 => some Tryd.f179
  | 180 => some Tryd.f180
  | 181 => some Tryd.f181
  | 182 => some Tryd.f182
  | 183 => some Tryd.f183
  | 184 => some Tryd.f184
  | 185 => some Tryd.f185
  | 186 => some Tryd.f186
  | 187 => some Tryd.f187
  | 196 => some Tryd.f196
  | 197 => some Tryd.f197
  | 198 => some Tryd.f198
  | 199 => some Tryd.f199
  | 200 => some Tryd.f200
  | 201 => some Tryd.f201
  | 202 => some Tryd.f202
  | 205 => some Tryd.f205
  | 206 => some Tryd.f206
  | 207 => some Tryd.f207
  | 209 => some Tryd.f209
  | 210 => some Tryd.f210
  | 211 => some Tryd.f211
  | 212 => some Tryd.f212
  | 213 => some Tryd.f213
  | _ => none
theorem B1_ok (g : FuncId) (fn : Func) (h : B1 g = some fn) : Tryd.prog.funcs[g]? = some fn := by
  unfold B1 at h
  split at h <;> simp only [Option.some.injEq, reduceCtorEq] at h <;> subst h
  · exact Tryd.func173
  · exact Tryd.func174
  · exact Tryd.func175
  · exact Tryd.func176
  · exact Tryd.func177
  · exact Tryd.func178
  · exact Tryd.func179
  · exact Tryd.func180
  · exact Tryd.func181
  · exact Tryd.func182
  · exact Tryd.func183
  · exact Tryd.func184
  · exact Tryd.func185
  · exact Tryd.func186
  · exact Tryd.func187
  · exact Tryd.func196
  · exact Tryd.func197
  · exact Tryd.func198
  · exact Tryd.func199
  · exact Tryd.func200
  · exact Tryd.func201
  · exact Tryd.func202
  · exact Tryd.func205
  · exact Tryd.func206
  · exact Tryd.func207
  · exact Tryd.func209
  · exact Tryd.func210
  · exact Tryd.func211
  · exact Tryd.func212
  · exact Tryd.func213
theorem B1_enter (g : FuncId) (fn : Func) (h : B1 g = some fn) (_ : fn.body.isSome = true) : (fn.name == "runtime.NumGoroutine") = false := by
  unfold B1 at h
  split at h <;> simp only [Option.some.injEq, reduceCtorEq] at h <;> subst h <;> kernel_rfl
noncomputable def B : FuncId → Option Func := fun g => if g < 173 then B0 g else B1 g
theorem B_ok (g : FuncId) (fn : Func) (h : B g = some fn) : Tryd.prog.funcs[g]? = some fn := by
  unfold B at h
  split at h
  · exact B0_ok g fn h
  exact B1_ok g fn h
theorem B_enter (g : FuncId) (fn : Func) (h : B g = some fn) (k : fn.body.isSome = true) : (fn.name == "runtime.NumGoroutine") = false := by
  unfold B at h
  split at h
  · exact B0_enter g fn h k
  exact B1_enter g fn h k

def lv : FuncId → Nat → Option (List Nat) := fun g r => match g with
  | 3 => (match r with | 0 => some [0, 1] | 1 => some [0, 1, 9] | 2 => some [4] | 3 => some [5, 6] | 4 => some [4] | _ => none)
  | 4 => (match r with | 0 => some [1, 2, 3, 5, 9] | 1 => some [1, 2, 3, 5, 9, 28] | 2 => some [10] | 3 => some [1, 2, 3, 5, 9, 11, 12] | 4 => some [1, 2, 3, 5, 9, 11, 12, 13, 14] | 5 => some [10] | _ => none)
  | 5 => (match r with | 0 => some [1, 2, 3, 4] | 1 => some [1, 2, 3, 4, 27] | 2 => some [8] | 3 => some [1, 2, 3, 4, 9] | 4 => some [1, 2, 3, 4, 9, 10] | 5 => some [1, 2, 3, 4, 9, 10, 11] | 6 => some [1, 2, 3, 4, 9, 10, 11, 41] | 7 => some [1, 2, 3, 4, 9, 10, 11] | 8 => some [1, 2, 3, 4, 9, 10, 11, 12] | 9 => some [1, 2, 3, 4, 9, 10, 11, 12, 14] | 10 => some [1, 2, 3, 4, 9, 10, 11, 12, 14, 15] | 11 => some [1, 2, 3, 4, 9, 10, 11, 12, 14, 15, 58] | 12 => some [1, 2, 3, 4, 9, 10, 11, 12, 14, 15] | 13 => some [1, 2, 3, 4, 9, 10, 11, 12, 14, 15, 70] | 14 => some [1, 2, 3, 4, 9, 10, 11, 12, 14, 15] | 15 => some [1, 2, 3, 4, 9, 10, 11, 12, 101] | 16 => some [9, 12, 17] | 17 => some [8] | 18 => some [1, 2, 3, 4, 9, 18] | 19 => some [1, 2, 3, 4, 9, 18, 19] | 20 => some [1, 2, 3, 4, 9, 18, 19, 138] | 21 => some [1, 2, 3, 4, 18] | 22 => some [8] | _ => none)
  | 6 => (match r with | 0 => some [1, 2, 3, 4] | 1 => some [1, 2, 3, 4, 26] | 2 => some [8] | 3 => some [1, 2, 3, 4, 9, 10] | 4 => some [1, 2, 3, 4, 9, 10, 11] | 5 => some [1, 2, 3, 4, 9, 10, 11, 12] | 6 => some [1, 2, 3, 4, 9, 11, 12, 48] | 7 => some [8] | 8 => some [1, 2, 3, 4, 9, 11, 12, 13] | 9 => some [1, 2, 3, 4, 9, 11, 12, 13, 14] | 10 => some [1, 2, 3, 4, 9, 11, 12, 13, 14, 15] | 11 => some [1, 2, 3, 4, 9, 11, 12, 13, 14, 15, 16] | 12 => some [1, 2, 3, 4, 9, 11, 12, 13, 14, 15, 16, 71] | 13 => some [1, 2, 3, 4, 9, 11, 12, 13, 14, 15, 16] | 14 => some [1, 2, 3, 4, 9, 11, 12, 13, 14, 15, 16, 17] | 15 => some [1, 2, 3, 4, 9, 11, 12, 13, 14, 15, 16, 17, 87] | 16 => some [1, 2, 3, 4, 9, 11, 12, 13, 14, 15, 16, 17] | 17 => some [1, 2, 3, 4, 9, 11, 12, 13, 14, 15, 16] | 18 => some [8] | _ => none)
  | 14 => (match r with | 0 => some [] | 1 => some [1] | 2 => some [0] | _ => none)
  | 15 => (match r with | 0 => some [0, 1] | 1 => some [0, 1, 9, 10] | 2 => some [0, 1, 9, 10, 11] | 3 => some [0, 1, 5, 9, 10] | 4 => some [0, 1, 9, 10, 28] | 5 => some [4] | 6 => some [0, 1, 9, 10] | 7 => some [6] | 8 => some [4] | _ => none)
  | 16 => (match r with | 0 => some [0, 1] | 1 => some [0, 1, 5] | 2 => some [0, 1, 5, 6] | 3 => some [0, 1, 5, 6, 10] | 4 => some [0, 1, 5, 6] | 5 => some [0, 1, 5, 6, 28] | 6 => some [4] | 7 => some [0, 1, 5, 6, 35] | 8 => some [0, 1, 5, 6] | 9 => some [4] | _ => none)
  | 17 => (match r with | 0 => some [1] | 1 => some [1, 15] | 2 => some [2] | 3 => some [1, 3] | 4 => some [1, 3, 4] | 5 => some [1, 3, 4, 24] | 6 => some [1, 3, 4] | 7 => some [1, 3, 4] | 8 => some [1, 3, 5] | 9 => some [1, 3, 5, 38] | 10 => some [1, 3, 5] | 11 => some [1, 3, 5, 48] | 12 => some [2] | 13 => some [2] | _ => none)
  | 18 => (match r with | 0 => some [1, 2, 3, 4, 8, 9] | 1 => some [8, 9, 15] | 2 => some [8, 9, 10] | 3 => some [] | 4 => some [8, 9] | _ => none)
  | 19 => (match r with | 0 => some [1, 2, 3, 4, 8] | 1 => some [1, 2, 3, 4, 8, 14] | 2 => some [8, 9] | 3 => some [8, 10] | 4 => some [8, 9] | _ => none)
  | 20 => (match r with | 0 => some [0, 1] | 1 => some [0, 1, 10] | 2 => some [4] | 3 => some [0, 1, 5] | 4 => some [0, 1, 5, 14] | 5 => some [0, 1, 5] | 6 => some [0, 1, 5, 25] | 7 => some [4] | 8 => some [4] | _ => none)
  | 21 => (match r with | 0 => some [1, 2, 3, 4, 8] | 1 => some [1, 2, 3, 4, 8, 9] | 2 => some [8, 9, 17] | 3 => some [9, 10] | 4 => some [9, 10, 11] | 5 => some [9, 10, 11, 33] | 6 => some [] | 7 => some [] | 8 => some [9, 12] | 9 => some [9, 12, 55] | 10 => some [9] | 11 => some [9] | 12 => some [8] | _ => none)
  | 22 => (match r with | 0 => some [1, 2, 3, 4] | 1 => some [1, 2, 3, 4, 17] | 2 => some [8] | 3 => some [2, 3, 4, 9] | 4 => some [2, 3, 4, 9, 10] | 5 => some [2, 3, 4, 9, 10, 11] | 6 => some [2, 3, 4, 9, 10, 11, 12] | 7 => some [2, 3, 4, 9, 10, 11, 12, 27] | 8 => some [2, 3, 4, 9, 10, 11, 12] | 9 => some [2, 3, 4, 9, 10, 11, 12, 13] | 10 => some [2, 3, 4, 9, 10, 11, 12, 13, 40] | 11 => some [2, 3, 4, 9, 10, 11, 12, 13] | 12 => some [2, 3, 4, 9, 10, 11, 12] | 13 => some [8] | _ => none)
  | 23 => (match r with | 0 => some [1, 2, 3, 4] | 1 => some [9] | 2 => some [9, 10] | 3 => some [9, 10, 29] | 4 => some [8] | 5 => some [8] | _ => none)
  | 24 => (match r with | 0 => some [1, 2, 3, 4] | 1 => some [1, 2, 3, 4, 9, 10] | 2 => some [1, 2, 3, 4, 9, 23] | 3 => some [8] | 4 => some [1, 2, 3, 4, 9, 11] | 5 => some [2, 3, 4, 9, 11, 12] | 6 => some [2, 3, 4, 9, 11, 12, 13] | 7 => some [2, 3, 4, 9, 11, 12, 13, 44] | 8 => some [2, 3, 4, 9, 11, 12, 13] | 9 => some [2, 3, 4, 9, 11, 12, 13] | 10 => some [8] | _ => none)
  | 25 => (match r with | 0 => some [0, 1] | 1 => some [0, 1, 10] | 2 => some [4] | 3 => some [0, 1, 5] | 4 => some [0, 1, 5, 14] | 5 => some [0, 1, 5] | 6 => some [0, 1, 5, 25] | 7 => some [4] | 8 => some [4] | _ => none)
  | 26 => (match r with | 0 => some [1, 2, 3, 5, 9, 10] | 1 => some [1, 2, 3, 5, 9, 10, 11] | 2 => some [9, 10, 11, 17] | 3 => some [9, 11, 12] | 4 => some [11, 12, 27] | 5 => some [] | 6 => some [10] | _ => none)
  | 27 => (match r with | 0 => some [1, 2, 3, 5, 9] | 1 => some [1, 2, 3, 5, 9, 22] | 2 => some [10] | 3 => some [2, 3, 5, 9, 11] | 4 => some [2, 3, 5, 9, 11, 12] | 5 => some [2, 3, 5, 9, 11, 12, 13] | 6 => some [2, 3, 5, 9, 11, 12, 13, 30] | 7 => some [2, 3, 5, 9, 11, 12, 13] | 8 => some [2, 3, 5, 9, 11, 12, 13, 42] | 9 => some [2, 3, 5, 9, 11, 12, 13] | 10 => some [10] | _ => none)
  | 28 => (match r with | 0 => some [0, 1] | 1 => some [0, 1, 11] | 2 => some [4] | 3 => some [0, 1, 5] | 4 => some [0, 5, 6] | 5 => some [0, 5, 6, 22] | 6 => some [0, 5, 6] | 7 => some [0, 5, 6] | 8 => some [4] | _ => none)
  | 29 => (match r with | 0 => some [0, 1] | 1 => some [0, 1, 5] | 2 => some [0, 1, 5, 9] | 3 => some [0, 1, 5] | 4 => some [0, 1, 5, 17] | 5 => some [4] | 6 => some [4] | _ => none)
  | 55 => (match r with | 0 => some [0] | 1 => some [0] | _ => none)
  | 56 => (match r with | 0 => some [0, 2] | 1 => some [2] | _ => none)
  | 57 => (match r with | 0 => some [0, 1, 2] | 1 => some [0, 1, 2, 8] | 2 => some [0, 1, 2, 8, 9, 10] | 3 => some [0, 1, 2, 8, 9, 10, 17] | 4 => some [0, 1, 2, 8, 9, 10, 11] | 5 => some [0, 1, 2, 8, 9, 10, 11, 31] | 6 => some [0, 1, 2, 8, 9, 10] | 7 => some [0, 1, 2, 8, 9, 10] | 8 => some [6, 7] | _ => none)
  | 58 => (match r with | 0 => some [1, 2] | 1 => some [8] | 2 => some [4] | 3 => some [4] | _ => none)
  | 59 => (match r with | 0 => some [1, 2, 3] | 1 => some [1, 2, 3] | 2 => some [1, 2, 3, 26] | 3 => some [6] | 4 => some [1, 2, 3, 7] | 5 => some [1, 2, 3, 7, 35] | 6 => some [1, 2, 3, 7] | 7 => some [1, 2, 3, 7] | 8 => some [6] | _ => none)
  | 60 => (match r with | 0 => some [4, 5, 6, 7] | 1 => some [8] | _ => none)
  | 61 => (match r with | 0 => some [1, 2] | 1 => some [4] | _ => none)
  | 62 => (match r with | 0 => some [1, 2, 3, 4, 8] | 1 => some [8] | _ => none)
  | 63 => (match r with | 0 => some [0, 2, 3] | 1 => some [0, 2, 3, 9] | 2 => some [0, 2, 3] | 3 => some [0, 2, 3] | _ => none)
  | 64 => (match r with | 0 => some [0, 1] | 1 => some [0, 1, 9] | 2 => some [4] | 3 => some [0, 1, 5] | 4 => some [0, 1, 5, 26] | 5 => some [0, 1, 5] | 6 => some [0, 1, 5] | 7 => some [4] | _ => none)
  | 65 => (match r with | 0 => some [1, 2] | 1 => some [1, 2, 6] | 2 => some [1, 2, 13] | 3 => some [4] | 4 => some [4] | _ => none)
  | 66 => (match r with | 0 => some [1] | 1 => some [1, 4] | 2 => some [1, 21] | 3 => some [2] | 4 => some [24] | 5 => some [2] | 6 => some [2] | _ => none)
  | 72 => (match r with | 0 => some [0, 1] | 1 => some [0, 1, 10] | 2 => some [4] | 3 => some [0, 1, 5] | 4 => some [0, 1, 5, 14] | 5 => some [0, 1, 5] | 6 => some [0, 1, 5, 25] | 7 => some [4] | 8 => some [4] | _ => none)
  | 90 => (match r with | 0 => some [0] | 1 => some [0, 6] | 2 => some [2] | 3 => some [0, 3] | 4 => some [0, 3, 10] | 5 => some [0, 3] | 6 => some [0, 3, 33] | 7 => some [2] | 8 => some [0, 3, 77] | 9 => some [2] | 10 => some [2] | _ => none)
  | 94 => (match r with | 0 => some [0, 1] | 1 => some [4] | _ => none)
  | 98 => (match r with | 0 => some [0, 2] | 1 => some [2, 3] | 2 => some [2] | _ => none)
  | 99 => (match r with | 0 => some [0] | 1 => some [0, 6] | 2 => some [2] | 3 => some [0, 3] | 4 => some [0, 3, 10] | 5 => some [0, 3] | 6 => some [0, 3, 20] | 7 => some [2] | 8 => some [2] | _ => none)
  | 100 => (match r with | 0 => some [0, 1, 2, 3, 4, 12] | 1 => some [0, 1, 3, 4, 16, 17, 18] | 2 => some [0, 1, 3, 4, 16, 17, 18, 19] | 3 => some [0, 1, 3, 4, 7, 16, 17, 18] | 4 => some [0, 1, 3, 4, 7, 8, 16, 17, 18] | 5 => some [0, 1, 3, 4, 16, 17, 18, 40] | 6 => some [0, 1, 3, 4, 16, 17, 18] | _ => none)
  | 101 => (match r with | 0 => some [0, 1, 4] | 1 => some [0, 1, 4, 9] | 2 => some [4, 5] | 3 => some [4, 6] | 4 => some [4, 5] | _ => none)
  | 102 => (match r with | 0 => some [1, 2] | 1 => some [1, 2, 9] | 2 => some [4] | 3 => some [1, 2, 11] | 4 => some [1, 2, 5, 6] | 5 => some [1, 2, 5, 32] | 6 => some [4] | 7 => some [1, 2] | 8 => some [1, 2] | 9 => some [4] | _ => none)
  | 103 => (match r with | 0 => some [1] | 1 => some [1, 16] | 2 => some [2] | 3 => some [1, 3] | 4 => some [1, 3, 21] | 5 => some [1, 3] | 6 => some [1, 3, 30] | 7 => some [2] | 8 => some [2] | _ => none)
  | 104 => (match r with | 0 => some [0, 1, 4] | 1 => some [0, 1, 4, 5] | 2 => some [0, 1, 4, 5, 9] | 3 => some [0, 1, 4, 5] | 4 => some [0, 1, 4, 5, 27] | 5 => some [4] | 6 => some [4] | _ => none)
  | 105 => (match r with | 0 => some [1, 2] | 1 => some [1, 5] | 2 => some [1, 5, 6] | 3 => some [1, 5, 6, 12] | 4 => some [1, 5, 6] | 5 => some [1, 5, 6, 21] | 6 => some [4] | 7 => some [4] | _ => none)
  | 106 => (match r with | 0 => some [0, 1] | 1 => some [4] | _ => none)
  | 107 => (match r with | 0 => some [0] | 1 => some [0, 9] | 2 => some [2, 3] | 3 => some [0, 10, 11, 12] | 4 => some [0, 10, 11, 12, 13] | 5 => some [0, 4, 5, 10, 11, 12] | 6 => some [0, 4, 6, 10, 11, 12] | 7 => some [0, 4, 6, 10, 11, 12, 23] | 8 => some [2, 3] | 9 => some [0, 10, 11, 12] | 10 => some [2, 3] | _ => none)
  | 108 => (match r with | 0 => some [0, 1] | 1 => some [4] | _ => none)
  | 109 => (match r with | 0 => some [0, 1] | 1 => some [3] | _ => none)
  | 110 => (match r with | 0 => some [0, 1] | 1 => some [4] | _ => none)
  | 111 => (match r with | 0 => some [1] | 1 => some [2] | _ => none)
  | 112 => (match r with | 0 => some [1] | 1 => some [17] | 2 => some [2] | 3 => some [2] | _ => none)
  | 113 => (match r with | 0 => some [1, 2, 3, 6] | 1 => some [1, 2, 3, 6, 20] | 2 => some [6, 7] | 3 => some [6, 7] | _ => none)
  | 133 => (match r with | 0 => some [0] | 1 => some [0, 8] | 2 => some [2] | 3 => some [0, 9, 10, 11] | 4 => some [0, 9, 10, 11, 12] | 5 => some [0, 3, 4, 9, 10, 11] | 6 => some [0, 3, 4, 9, 10, 11, 27] | 7 => some [2] | 8 => some [0, 3, 4, 9, 10, 11, 29] | 9 => some [0, 4, 5, 9, 10, 11] | 10 => some [0, 9, 10, 11, 53] | 11 => some [2] | 12 => some [0, 9, 10, 11] | 13 => some [2] | _ => none)
  | 135 => (match r with | 0 => some [0, 1] | 1 => some [4] | _ => none)
  | 136 => (match r with | 0 => some [1] | 1 => some [2] | _ => none)
  | 137 => (match r with | 0 => some [0, 1] | 1 => some [4] | _ => none)
  | 138 => (match r with | 0 => some [0, 1, 4] | 1 => some [0, 1, 4, 5] | 2 => some [0, 4, 5, 25] | 3 => some [4] | 4 => some [4] | _ => none)
  | 139 => (match r with | 0 => some [0, 1] | 1 => some [4, 5] | _ => none)
  | 140 => (match r with | 0 => some [0] | 1 => some [0, 4] | 2 => some [2] | 3 => some [2] | _ => none)
  | 141 => (match r with | 0 => some [0] | 1 => some [4] | 2 => some [2] | _ => none)
  | 142 => (match r with | 0 => some [1] | 1 => some [2] | _ => none)
  | 143 => (match r with | 0 => some [1] | 1 => some [1, 5] | 2 => some [2] | 3 => some [2] | _ => none)
  | 144 => (match r with | 0 => some [2, 3] | 1 => some [2, 3, 5] | 2 => some [2, 3, 5, 34] | 3 => some [4] | 4 => some [2, 3, 5, 37] | 5 => some [4] | 6 => some [40] | 7 => some [4] | 8 => some [4] | _ => none)
  | 145 => (match r with | 0 => some [0, 1] | 1 => some [0, 1, 7, 8] | 2 => some [0, 1, 7, 8, 9] | 3 => some [0, 1, 5, 7, 8] | 4 => some [0, 1, 5, 7, 8, 16] | 5 => some [4] | 6 => some [0, 1, 7, 8] | 7 => some [4] | _ => none)
  | 146 => (match r with | 0 => some [0, 1] | 1 => some [0, 1, 7, 8] | 2 => some [0, 1, 7, 8, 9] | 3 => some [0, 1, 5, 7, 8] | 4 => some [0, 1, 5, 7, 8, 16] | 5 => some [4] | 6 => some [0, 1, 7, 8] | 7 => some [4] | _ => none)
  | 147 => (match r with | 0 => some [0, 1] | 1 => some [0, 1, 5] | 2 => some [1, 5, 8, 9, 10] | 3 => some [1, 5, 8, 9, 10, 11] | 4 => some [1, 5, 7, 8, 9, 10] | 5 => some [1, 7, 8, 9, 10, 37] | 6 => some [4] | 7 => some [1, 7, 8, 9, 10, 58] | 8 => some [4] | 9 => some [1, 5, 8, 9, 10] | 10 => some [1, 5, 8, 9, 10] | 11 => some [4] | _ => none)
  | 148 => (match r with | 0 => some [0] | 1 => some [2] | _ => none)
  | 149 => (match r with | 0 => some [1, 2, 3, 6] | 1 => some [1, 2, 3, 6] | 2 => some [1, 2, 3, 6, 14] | 3 => some [3, 6] | 4 => some [6] | 5 => some [1, 2, 3, 6, 7, 8] | 6 => some [1, 2, 3, 6, 7, 28] | 7 => some [1, 2, 3, 6, 7, 31] | 8 => some [3, 6] | 9 => some [6] | 10 => some [1, 2, 3, 6, 7, 9] | 11 => some [1, 2, 3, 6, 7, 9, 10] | 12 => some [1, 2, 3, 6, 7, 9, 10, 56] | 13 => some [1, 2, 3, 6, 7, 9, 10, 59] | 14 => some [6] | 15 => some [1, 2, 3, 6, 7, 9, 10] | 16 => some [3, 6, 7, 9] | 17 => some [3, 6, 7, 8] | 18 => some [3, 6, 7, 80] | 19 => some [3, 6] | 20 => some [6] | _ => none)
  | 170 => (match r with | 0 => some [0, 1] | 1 => some [4] | _ => none)
  | 171 => (match r with | 0 => some [1] | 1 => some [1, 4] | 2 => some [1, 4, 5] | 3 => some [9] | 4 => some [2] | 5 => some [1, 10] | 6 => some [26] | 7 => some [2] | 8 => some [2] | _ => none)
  | 172 => (match r with | 0 => some [0] | 1 => some [0, 3] | 2 => some [0, 3, 4] | 3 => some [0, 3, 4, 9] | 4 => some [0, 3, 4, 5] | 5 => some [0, 3, 4, 5, 14] | 6 => some [2] | 7 => some [0, 3, 4] | 8 => some [0, 3, 4] | 9 => some [2] | _ => none)
  | 173 => (match r with | 0 => some [0, 1, 2] | 1 => some [0, 1, 2, 8] | 2 => some [0, 1, 2, 8, 9, 10] | 3 => some [0, 1, 2, 8, 9, 10, 17] | 4 => some [0, 1, 2, 8, 9, 10, 11] | 5 => some [0, 1, 2, 8, 9, 10, 11, 31] | 6 => some [0, 1, 2, 8, 9, 10] | 7 => some [0, 1, 2, 8, 9, 10] | 8 => some [6, 7] | _ => none)
  | 174 => (match r with | 0 => some [1, 2] | 1 => some [8] | 2 => some [4] | 3 => some [4] | _ => none)
  | 175 => (match r with | 0 => some [0, 1, 2] | 1 => some [0, 1, 2, 8] | 2 => some [0, 1, 2, 8, 9, 10] | 3 => some [0, 1, 2, 8, 9, 10, 17] | 4 => some [0, 1, 2, 8, 9, 10, 11] | 5 => some [0, 1, 2, 8, 9, 10, 11, 31] | 6 => some [0, 1, 2, 8, 9, 10] | 7 => some [0, 1, 2, 8, 9, 10] | 8 => some [6, 7] | _ => none)
  | 176 => (match r with | 0 => some [1, 2] | 1 => some [4] | _ => none)
  | 177 => (match r with | 0 => some [0] | 1 => some [0, 8] | 2 => some [2, 3] | 3 => some [0, 4] | 4 => some [0, 4, 12] | 5 => some [0, 4] | 6 => some [0, 4, 5] | 7 => some [0, 4, 5, 19] | 8 => some [2, 3] | 9 => some [2, 3] | _ => none)
  | 178 => (match r with | 0 => some [1, 2] | 1 => some [1, 2, 9] | 2 => some [4] | 3 => some [1, 2, 5] | 4 => some [1, 2, 5, 14] | 5 => some [1, 2, 5] | 6 => some [1, 2, 5, 46] | 7 => some [4] | 8 => some [4] | _ => none)
  | 179 => (match r with | 0 => some [1, 2] | 1 => some [2, 5] | 2 => some [2, 5, 6] | 3 => some [2, 5, 6, 15] | 4 => some [2, 5, 6] | 5 => some [2, 5, 6, 7] | 6 => some [2, 5, 6, 7, 27] | 7 => some [2, 5, 6, 7] | 8 => some [2, 5, 6, 7] | 9 => some [4] | _ => none)
  | 180 => (match r with | 0 => some [0, 1] | 1 => some [3] | _ => none)
  | 181 => (match r with | 0 => some [0, 1, 2] | 1 => some [4] | _ => none)
  | 182 => (match r with | 0 => some [1, 2] | 1 => some [1, 2] | 2 => some [2] | _ => none)
  | 183 => (match r with | 0 => some [0, 1, 2] | 1 => some [0, 1, 2] | 2 => some [0, 1, 2, 7] | 3 => some [0, 1, 2, 7, 16] | 4 => some [6] | 5 => some [0, 1, 2, 7, 8] | 6 => some [0, 1, 2, 7, 8, 22] | 7 => some [6] | 8 => some [0, 1, 2, 7, 8, 31] | 9 => some [0, 1, 2, 7, 9] | 10 => some [0, 1, 7, 9] | 11 => some [9] | 12 => some [6] | 13 => some [0, 1, 2, 7, 8] | 14 => some [0, 1, 2, 7, 8, 68] | 15 => some [0, 1, 2] | 16 => some [0] | 17 => some [6] | 18 => some [0, 1, 7] | 19 => some [0] | 20 => some [6] | _ => none)
  | 184 => (match r with | 0 => some [0, 1] | 1 => some [0, 1, 5] | 2 => some [0, 1, 5, 24] | 3 => some [0, 1, 5] | 4 => some [4] | _ => none)
  | 185 => (match r with | 0 => some [1, 2, 4] | 1 => some [1, 2, 4, 5] | 2 => some [2, 4, 5] | 3 => some [4, 5] | 4 => some [4] | _ => none)
  | 186 => (match r with | 0 => some [1, 2] | 1 => some [1, 2, 5] | 2 => some [2, 3] | 3 => some [1, 2, 17] | 4 => some [2, 3] | 5 => some [1, 2, 4] | 6 => some [2, 4] | 7 => some [2, 3] | _ => none)
  | 187 => (match r with | 0 => some [0, 1, 2] | 1 => some [0, 1, 2] | 2 => some [0, 1, 2, 16] | 3 => some [6] | 4 => some [0, 1, 2, 7] | 5 => some [0, 7] | 6 => some [0] | 7 => some [6] | _ => none)
  | 196 => (match r with | 0 => some [0] | 1 => some [0, 3] | 2 => some [3, 7] | 3 => some [2] | 4 => some [2] | _ => none)
  | 197 => (match r with | 0 => some [0, 1] | 1 => some [0, 1, 17] | 2 => some [4] | 3 => some [0, 1, 5] | 4 => some [0, 1, 5] | 5 => some [4] | 6 => some [0, 1, 5, 23] | 7 => some [4] | 8 => some [0, 1, 5, 26] | 9 => some [0, 1, 6, 7, 8] | 10 => some [0, 1, 5, 35] | 11 => some [0, 1, 6, 7, 8] | 12 => some [0, 1, 5, 44] | 13 => some [0, 1, 6, 7, 8] | 14 => some [0, 1, 6, 7, 8, 9] | 15 => some [0, 1, 6, 7, 8, 9, 55] | 16 => some [0, 1, 6, 7, 8, 9] | 17 => some [0, 1, 6, 7, 8, 9, 73] | 18 => some [4] | 19 => some [0, 1, 6, 7, 8, 9] | 20 => some [6, 98] | 21 => some [4] | 22 => some [4] | _ => none)
  | 198 => (match r with | 0 => some [0, 1] | 1 => some [0, 1, 5] | 2 => some [0, 1, 5, 43] | 3 => some [4] | 4 => some [0, 1, 5, 6] | 5 => some [0, 1, 5, 6, 48] | 6 => some [0, 1, 5, 6] | 7 => some [0, 1, 5, 6, 65] | 8 => some [4] | 9 => some [0, 5, 7] | 10 => some [0, 5, 7, 70] | 11 => some [0, 5, 7] | 12 => some [0, 5, 7, 85] | 13 => some [4] | 14 => some [4] | _ => none)
  | 199 => (match r with | 0 => some [1, 2] | 1 => some [1, 2, 32] | 2 => some [4] | 3 => some [4] | _ => none)
  | 200 => (match r with | 0 => some [0] | 1 => some [0, 4] | 2 => some [2] | 3 => some [2] | _ => none)
  | 202 => (match r with | 0 => some [] | _ => none)
  | 205 => (match r with | 0 => some [0, 1, 4] | 1 => some [0, 1, 4] | 2 => some [4] | 3 => some [4] | _ => none)
  | 206 => (match r with | 0 => some [] | _ => none)
  | 207 => (match r with | 0 => some [0, 1] | 1 => some [0] | 2 => some [] | _ => none)
  | 209 => (match r with | 0 => some [0, 1] | 1 => some [0, 1, 4] | 2 => some [0] | 3 => some [] | _ => none)
  | 210 => (match r with | 0 => some [0, 1, 9] | 1 => some [0, 1, 9, 10, 11] | 2 => some [0, 1, 4, 5, 9] | 3 => some [0, 1, 4, 5, 9, 15] | 4 => some [0, 1, 4, 5, 7, 9] | 5 => some [0, 1, 4, 5, 9, 24] | 6 => some [0, 1, 4, 5, 9] | 7 => some [0, 1, 9] | _ => none)
  | 211 => (match r with | 0 => some [0, 2, 3] | 1 => some [0, 2, 3, 9] | 2 => some [0, 2, 3] | 3 => some [0, 2, 3] | _ => none)
  | 212 => (match r with | 0 => some [0] | 1 => some [0, 10] | 2 => some [2, 3] | 3 => some [2, 3] | _ => none)
  | 213 => (match r with | 0 => some [0] | 1 => some [0, 4] | 2 => some [0, 4, 16] | 3 => some [2, 3] | 4 => some [0, 4, 5] | 5 => some [0, 4, 5, 6] | 6 => some [0, 4, 5, 6, 23] | 7 => some [0, 7] | 8 => some [2, 3] | 9 => some [0, 4, 5, 6, 8] | 10 => some [0, 4, 5, 8, 9] | 11 => some [0, 5, 8, 9, 45] | 12 => some [2, 3] | 13 => some [0, 5, 8, 9, 10] | 14 => some [0, 5, 8, 10, 57] | 15 => some [2, 3] | 16 => some [0, 5, 8, 10, 59] | 17 => some [2, 3] | 18 => some [0, 5, 8, 10, 11] | 19 => some [0, 5, 8, 10, 11, 75] | 20 => some [2, 3] | 21 => some [0, 5, 10, 11, 77] | 22 => some [2, 3] | 23 => some [5, 10, 11, 12] | 24 => some [5, 10, 11, 12, 98] | 25 => some [2, 3] | 26 => some [2, 3] | _ => none)
  | _ => none
def hd : FuncId → Nat → Option (List Nat) := fun g r => match g with
  | 5 => (match r with | 6 => some [1, 2, 3, 4, 9, 10, 11] | 11 => some [1, 2, 3, 4, 9, 10, 11, 12, 14, 15] | _ => none)
  | 6 => (match r with | 12 => some [1, 2, 3, 4, 9, 11, 12, 13, 14, 15, 16] | _ => none)
  | 15 => (match r with | 2 => some [0, 1, 9, 10] | _ => none)
  | 16 => (match r with | 3 => some [0, 1, 5, 6] | _ => none)
  | 17 => (match r with | 5 => some [1, 3, 4] | 9 => some [1, 3, 5] | _ => none)
  | 18 => (match r with | 3 => some [8, 9, 15] | _ => none)
  | 20 => (match r with | 4 => some [0, 1, 5] | _ => none)
  | 21 => (match r with | 4 => some [8, 9, 17] | _ => none)
  | 22 => (match r with | 7 => some [2, 3, 4, 9, 10, 11, 12] | _ => none)
  | 24 => (match r with | 7 => some [2, 3, 4, 9, 11, 12, 13] | _ => none)
  | 25 => (match r with | 4 => some [0, 1, 5] | _ => none)
  | 26 => (match r with | 4 => some [9, 10, 11, 17] | _ => none)
  | 27 => (match r with | 6 => some [2, 3, 5, 9, 11, 12, 13] | _ => none)
  | 28 => (match r with | 5 => some [0, 5, 6] | _ => none)
  | 29 => (match r with | 2 => some [0, 1, 5] | _ => none)
  | 57 => (match r with | 3 => some [0, 1, 2, 8, 9, 10] | _ => none)
  | 59 => (match r with | 5 => some [1, 2, 3, 7] | _ => none)
  | 63 => (match r with | 1 => some [0, 2, 3] | _ => none)
  | 64 => (match r with | 4 => some [0, 1, 5] | _ => none)
  | 72 => (match r with | 4 => some [0, 1, 5] | _ => none)
  | 90 => (match r with | 4 => some [0, 3] | _ => none)
  | 99 => (match r with | 4 => some [0, 3] | _ => none)
  | 100 => (match r with | 2 => some [0, 1, 3, 4, 16, 17, 18] | _ => none)
  | 102 => (match r with | 3 => some [1, 2] | _ => none)
  | 103 => (match r with | 4 => some [1, 3] | _ => none)
  | 104 => (match r with | 2 => some [0, 1, 4, 5] | _ => none)
  | 105 => (match r with | 3 => some [1, 5, 6] | _ => none)
  | 107 => (match r with | 4 => some [0, 10, 11, 12] | _ => none)
  | 133 => (match r with | 4 => some [0, 9, 10, 11] | _ => none)
  | 145 => (match r with | 2 => some [0, 1, 7, 8] | _ => none)
  | 146 => (match r with | 2 => some [0, 1, 7, 8] | _ => none)
  | 147 => (match r with | 3 => some [1, 5, 8, 9, 10] | _ => none)
  | 172 => (match r with | 3 => some [0, 3, 4] | _ => none)
  | 173 => (match r with | 3 => some [0, 1, 2, 8, 9, 10] | _ => none)
  | 175 => (match r with | 3 => some [0, 1, 2, 8, 9, 10] | _ => none)
  | 177 => (match r with | 4 => some [0, 4] | _ => none)
  | 178 => (match r with | 4 => some [1, 2, 5] | _ => none)
  | 179 => (match r with | 6 => some [2, 5, 6, 7] | _ => none)
  | 184 => (match r with | 2 => some [0, 1, 5] | _ => none)
  | 197 => (match r with | 15 => some [0, 1, 6, 7, 8, 9] | _ => none)
  | 198 => (match r with | 5 => some [0, 1, 5, 6] | 10 => some [0, 5, 7] | _ => none)
  | 210 => (match r with | 1 => some [0, 1, 9] | _ => none)
  | 211 => (match r with | 1 => some [0, 2, 3] | _ => none)
  | _ => none
def ow : FuncId → Nat → Bool := fun g s => match g with
  | 6 => (match s with | 14 => true | _ => false)
  | 21 => (match s with | 9 => true | _ => false)
  | 22 => (match s with | 10 => true | _ => false)
  | 26 => (match s with | 11 => true | _ => false)
  | 27 => (match s with | 12 => true | _ => false)
  | 28 => (match s with | 5 => true | 13 => true | _ => false)
  | 64 => (match s with | 5 => true | 11 => true | _ => false)
  | 140 => (match s with | 2 => true | 5 => true | _ => false)
  | 179 => (match s with | 6 => true | _ => false)
  | 183 => (match s with | 0 => true | 6 => true | 9 => true | 34 => true | _ => false)
  | 187 => (match s with | 0 => true | 22 => true | _ => false)
  | 200 => (match s with | 5 => true | _ => false)
  | _ => false
def br : FuncId → Nat → Bool := fun g s => match g with
  | 63 => (match s with | 0 => true | _ => false)
  | _ => false
def fz : FuncId → Bool := fun g => match g with
  | 60 => false
  | _ => true
def sp : FuncId → Bool := fun g => match g with
  | 140 => true
  | 200 => true
  | _ => false
def fx : FuncId → List (List Nat) := fun g => match g with
  | 3 => [[4]]
  | 4 => [[2, 3]]
  | 5 => [[2, 3]]
  | 6 => [[2, 3]]
  | 15 => [[4]]
  | 16 => [[4]]
  | 17 => [[2, 3]]
  | 18 => [[2, 3]]
  | 19 => [[2, 3]]
  | 20 => [[4], [4]]
  | 21 => [[2, 3]]
  | 22 => [[2, 3]]
  | 23 => [[2, 3]]
  | 24 => [[2, 3]]
  | 25 => [[1], [1]]
  | 26 => [[2, 3]]
  | 27 => [[2, 3]]
  | 28 => [[2]]
  | 29 => [[1]]
  | 57 => [[4]]
  | 59 => [[0, 5, 3]]
  | 60 => [[2, 3]]
  | 61 => [[2, 3]]
  | 62 => [[2, 3]]
  | 63 => [[4]]
  | 64 => [[2]]
  | 65 => [[2], [1]]
  | 66 => [[2, 3]]
  | 72 => [[5], [5]]
  | 90 => [[5]]
  | 99 => [[5]]
  | 101 => [[5]]
  | 102 => [[0, 5, 3]]
  | 103 => [[2, 3]]
  | 104 => [[5]]
  | 105 => [[0, 5, 3]]
  | 106 => [[2]]
  | 107 => [[2]]
  | 108 => [[1]]
  | 110 => [[3]]
  | 111 => [[0, 5, 3]]
  | 112 => [[0, 5, 3]]
  | 113 => [[0, 5, 3], [], [5]]
  | 133 => [[5]]
  | 138 => [[5]]
  | 139 => [[3]]
  | 140 => [[5]]
  | 141 => [[2]]
  | 142 => [[0, 5, 3]]
  | 143 => [[0, 5, 3]]
  | 144 => [[2], [1, 0]]
  | 145 => [[1]]
  | 146 => [[3]]
  | 147 => [[3]]
  | 149 => [[0, 5, 3], [], [5]]
  | 173 => [[5]]
  | 175 => [[3]]
  | 176 => [[0, 5, 3]]
  | 177 => [[2]]
  | 178 => [[0, 5, 3]]
  | 179 => [[0, 5, 3]]
  | 182 => [[0, 5, 3]]
  | 183 => [[3], [], [3]]
  | 185 => [[0, 5, 3]]
  | 186 => [[0, 5, 3]]
  | 187 => [[3]]
  | 198 => [[2]]
  | 199 => [[0, 5, 3]]
  | 200 => [[3]]
  | 201 => [[3], [3]]
  | 202 => [[3]]
  | 207 => [[3]]
  | 211 => [[3]]
  | _ => []
def wk : FuncId → List (List Nat) := fun g => match g with
  | 21 => [[4]]
  | 22 => [[4]]
  | 26 => [[1]]
  | 27 => [[1]]
  | 28 => [[1]]
  | 55 => [[2, 3]]
  | 64 => [[1]]
  | 98 => [[0, 5, 3]]
  | 102 => [[5]]
  | 105 => [[5]]
  | 113 => [[0, 5, 3]]
  | 140 => [[5]]
  | 143 => [[2]]
  | 149 => [[0, 5, 3]]
  | 179 => [[2]]
  | 183 => [[3]]
  | 185 => [[0, 5, 3]]
  | 186 => [[0, 5, 3]]
  | 187 => [[3]]
  | _ => []
def sh : TypeId → Option (List Sk) := fun t => match t with
  | 3 => some [.int .i64]
  | 4 => some [.bool]
  | 5 => some [.int .u8]
  | 9 => some [.str]
  | 21 => some [.int .i32]
  | 22 => some [.slx 4]
  | 26 => some [.slx 2]
  | 27 => some [.slx 3]
  | 29 => some [.sl 2, .sl 3]
  | 30 => some [.int .i64]
  | 32 => some [.int .i64, .int .i64, .str]
  | 33 => some [.sl 2, .sl 3]
  | 40 => some [.slx 1]
  | 45 => some [.int .i64, .int .i64, .int .i64, .str]
  | 49 => some [.slx 5]
  | 51 => some [.str, .sl 5, .sl 3]
  | 53 => some [.int .i64]
  | 58 => some [.sl 1, .int .i64]
  | 132 => some [.int .u64]
  | 148 => some [.int .i64, .int .i64, .int .i64, .int .i64, .str]
  | 179 => some [.slx 2]
  | 182 => some [.str, .sl 5]
  | 239 => some [.int .i64]
  | 247 => some [.int .u8, .int .u8]
  | _ => none
noncomputable def E0 (ext : FuncId → Option (List V → Hp → Option (List V × Hp))) (seq : FuncId → List V → Hp → Option (List (List V))) : Env := ⟨T, B, lv, hd, ow, br, fz, sp, fx, wk, ext, seq⟩
theorem env_ok {K : World → Prop} {ext : FuncId → Option (List V → Hp → Option (List V × Hp))} {seq : FuncId → List V → Hp → Option (List (List V))} (h : ∀ g f args H vals H', ext g = some f → f args H = some (vals, H') → Enter Tryd.prog g ∧ Sound Tryd.prog K g args H vals H') : EnvOk Tryd.prog K (E0 ext seq) := ⟨T_ok, B_ok, B_enter, h⟩
end Go.Proofs.YtbilmkcdhodenaaDoor
