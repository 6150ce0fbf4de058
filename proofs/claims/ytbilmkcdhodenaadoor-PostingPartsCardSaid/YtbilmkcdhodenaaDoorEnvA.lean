/-
  The environment of this seat for EV, written by a program: its types, its functions, the slots that live on. Nothing here is trusted: 'env_ok' says that the types and functions are the program's.
-/
import Derived.Test.YtbilmkcdhodenaaDoorEvN
import Derived.Test.YtbilmkcdhodenaaDoorProg
import Derived.KernelRfl
set_option linter.all false
set_option linter.unusedSimpArgs false
set_option linter.unusedVariables false
namespace Go.Proofs.YtbilmkcdhodenaaDoor
open Go.Ev

def T : TypeId → Option Ty := fun t => match t with
  | 1 => some ⟨.other, 1, 8, [], [.fnil], []⟩
  | 3 => some ⟨.int .i64, 1, 8, [.int], [.int .i64 0], []⟩
  | 4 => some ⟨.bool, 1, 1, [.bool], [.bool false], []⟩
  | 5 => some ⟨.int .u8, 1, 1, [.int], [.int .u8 0], []⟩
  | 9 => some ⟨.str, 1, 16, [.str], [.str []], []⟩
  | 20 => some ⟨.other, 1, 16, [], [.inil], []⟩
  | 21 => some ⟨.int .i32, 1, 4, [.int], [.int .i32 0], []⟩
  | 22 => some ⟨.slice 45, 1, 24, [], [.sl 4 (some true) true []], []⟩
  | 26 => some ⟨.slice 58, 1, 24, [], [.sl 2 (some true) true []], []⟩
  | 27 => some ⟨.slice 51, 1, 24, [], [.sl 3 (some true) true []], []⟩
  | 29 => some ⟨.struct [(0, 1, false), (1, 1, false)], 2, 48, [], [.sl 2 (some true) true [], .sl 3 (some true) true []], []⟩
  | 30 => some ⟨.int .i64, 1, 8, [.int], [.int .i64 0], []⟩
  | 32 => some ⟨.struct [(0, 1, false), (1, 1, false), (2, 1, false)], 3, 32, [.int, .int, .str], [.int .i64 0, .int .i64 0, .str []], []⟩
  | 33 => some ⟨.struct [(0, 1, false), (1, 1, false)], 2, 48, [], [.sl 2 (some true) true [], .sl 3 (some true) true []], []⟩
  | 40 => some ⟨.slice 3, 1, 24, [], [.sl 1 (some true) true []], []⟩
  | 45 => some ⟨.struct [(0, 1, false), (1, 3, true)], 4, 40, [.int, .int, .int, .str], [.int .i64 0, .int .i64 0, .int .i64 0, .str []], []⟩
  | 49 => some ⟨.slice 148, 1, 24, [], [.sl 5 (some true) true []], []⟩
  | 51 => some ⟨.struct [(0, 1, false), (1, 1, false), (2, 1, false)], 3, 64, [], [.str [], .sl 5 (some true) true [], .sl 3 (some true) true []], []⟩
  | 52 => some ⟨.slice 9, 1, 24, [], [.sl 1 (some true) true []], []⟩
  | 53 => some ⟨.int .i64, 1, 8, [.int], [.int .i64 0], []⟩
  | 58 => some ⟨.struct [(0, 1, false), (1, 1, false)], 2, 32, [], [.sl 1 (some true) true [], .int .i64 0], []⟩
  | 66 => some ⟨.slice 80, 1, 24, [], [.sl 3 (some true) true []], []⟩
  | 67 => some ⟨.int .i64, 1, 8, [.int], [.int .i64 0], []⟩
  | 80 => some ⟨.struct [(0, 1, false), (1, 1, false), (2, 1, false)], 3, 32, [.str, .int, .int], [.str [], .int .i64 0, .int .i64 0], []⟩
  | 82 => some ⟨.slice 84, 1, 24, [], [.sl 3 (some true) true []], []⟩
  | 84 => some ⟨.struct [(0, 1, false), (1, 1, false), (2, 1, false)], 3, 64, [], [.str [], .sl 5 (some true) true [], .sl 5 (some true) true []], []⟩
  | 94 => some ⟨.other, 1, 8, [], [.fnil], []⟩
  | 96 => some ⟨.other, 1, 8, [], [.fnil], []⟩
  | 108 => some ⟨.other, 1, 8, [], [.fnil], []⟩
  | 110 => some ⟨.ptr 112, 1, 8, [], [.pnil], []⟩
  | 112 => some ⟨.struct [(0, 2, true), (2, 3, true), (5, 1, false), (6, 1, false), (7, 1, false)], 8, 152, [], [.sl 2 (some true) true [], .sl 3 (some true) true [], .str [], .sl 5 (some true) true [], .sl 3 (some true) true [], .int .i64 0, .sl 1 (some true) true [], .int .i64 0], []⟩
  | 113 => some ⟨.other, 1, 8, [], [.fnil], []⟩
  | 115 => some ⟨.array 501 3, 501, 4008, [], [], [.int .i64 0]⟩
  | 120 => some ⟨.other, 1, 8, [], [.fnil], []⟩
  | 122 => some ⟨.other, 1, 8, [], [.fnil], []⟩
  | 130 => some ⟨.other, 1, 8, [], [.fnil], []⟩
  | 132 => some ⟨.int .u64, 1, 8, [.int], [.int .u64 0], []⟩
  | 133 => some ⟨.other, 1, 8, [], [.fnil], []⟩
  | 144 => some ⟨.other, 1, 8, [], [.fnil], []⟩
  | 148 => some ⟨.struct [(0, 1, false), (1, 1, false), (2, 3, true)], 5, 48, [.int, .int, .int, .int, .str], [.int .i64 0, .int .i64 0, .int .i64 0, .int .i64 0, .str []], []⟩
  | 150 => some ⟨.other, 1, 8, [], [.fnil], []⟩
  | 152 => some ⟨.array 3 49, 3, 72, [], [], [.sl 5 (some true) true []]⟩
  | 154 => some ⟨.struct [(0, 1, false), (1, 3, true)], 4, 88, [], [.str [], .sl 5 (some true) true [], .sl 5 (some true) true [], .sl 5 (some true) true []], []⟩
  | 157 => some ⟨.other, 1, 8, [], [.fnil], []⟩
  | 159 => some ⟨.other, 1, 8, [], [.fnil], []⟩
  | 160 => some ⟨.other, 1, 8, [], [.fnil], []⟩
  | 162 => some ⟨.ptr 115, 1, 8, [], [.pnil], []⟩
  | 163 => some ⟨.slice 66, 1, 24, [], [.sl 1 (some true) true []], []⟩
  | 170 => some ⟨.other, 1, 8, [], [.fnil], []⟩
  | 171 => some ⟨.other, 1, 8, [], [.fnil], []⟩
  | 174 => some ⟨.other, 1, 8, [], [.fnil], []⟩
  | 179 => some ⟨.slice 182, 1, 24, [], [.sl 2 (some true) true []], []⟩
  | 182 => some ⟨.struct [(0, 1, false), (1, 1, false)], 2, 40, [], [.str [], .sl 5 (some true) true []], []⟩
  | 188 => some ⟨.other, 1, 8, [], [.fnil], []⟩
  | 189 => some ⟨.array 3 179, 3, 72, [], [], [.sl 2 (some true) true []]⟩
  | 193 => some ⟨.int .i64, 1, 8, [.int], [.int .i64 0], []⟩
  | 200 => some ⟨.int .u32, 1, 4, [.int], [.int .u32 0], []⟩
  | 202 => some ⟨.int .u64, 1, 8, [.int], [.int .u64 0], []⟩
  | 206 => some ⟨.other, 1, 8, [], [.fnil], []⟩
  | 208 => some ⟨.other, 1, 8, [], [.fnil], []⟩
  | 220 => some ⟨.int .u64, 1, 8, [.int], [.int .u64 0], []⟩
  | 224 => some ⟨.ptr 3, 1, 8, [], [.pnil], []⟩
  | 231 => some ⟨.other, 1, 8, [], [.fnil], []⟩
  | 233 => some ⟨.ptr 220, 1, 8, [], [.pnil], []⟩
  | 236 => some ⟨.other, 1, 8, [], [.fnil], []⟩
  | 237 => some ⟨.other, 1, 8, [], [.fnil], []⟩
  | 239 => some ⟨.struct [(0, 1, false)], 1, 8, [.int], [.int .i64 0], []⟩
  | 245 => some ⟨.array 256 5, 256, 256, [], [], [.int .u8 0]⟩
  | 247 => some ⟨.struct [(0, 1, false), (1, 1, false)], 2, 2, [.int, .int], [.int .u8 0, .int .u8 0], []⟩
  | 248 => some ⟨.array 16 247, 32, 32, [], [], [.int .u8 0, .int .u8 0]⟩
  | _ => none

theorem ty1 : tyOf Tryd.prog 1 = some ⟨.other, 1, 8, [], [.fnil], []⟩ := by kernel_rfl
theorem ty3 : tyOf Tryd.prog 3 = some ⟨.int .i64, 1, 8, [.int], [.int .i64 0], []⟩ := by kernel_rfl
theorem ty4 : tyOf Tryd.prog 4 = some ⟨.bool, 1, 1, [.bool], [.bool false], []⟩ := by kernel_rfl
theorem ty5 : tyOf Tryd.prog 5 = some ⟨.int .u8, 1, 1, [.int], [.int .u8 0], []⟩ := by kernel_rfl
theorem ty9 : tyOf Tryd.prog 9 = some ⟨.str, 1, 16, [.str], [.str []], []⟩ := by kernel_rfl
theorem ty20 : tyOf Tryd.prog 20 = some ⟨.other, 1, 16, [], [.inil], []⟩ := by kernel_rfl
theorem ty21 : tyOf Tryd.prog 21 = some ⟨.int .i32, 1, 4, [.int], [.int .i32 0], []⟩ := by kernel_rfl
theorem ty22 : tyOf Tryd.prog 22 = some ⟨.slice 45, 1, 24, [], [.sl 4 (some true) true []], []⟩ := by kernel_rfl
theorem ty26 : tyOf Tryd.prog 26 = some ⟨.slice 58, 1, 24, [], [.sl 2 (some true) true []], []⟩ := by kernel_rfl
theorem ty27 : tyOf Tryd.prog 27 = some ⟨.slice 51, 1, 24, [], [.sl 3 (some true) true []], []⟩ := by kernel_rfl
theorem ty29 : tyOf Tryd.prog 29 = some ⟨.struct [(0, 1, false), (1, 1, false)], 2, 48, [], [.sl 2 (some true) true [], .sl 3 (some true) true []], []⟩ := by kernel_rfl
theorem ty30 : tyOf Tryd.prog 30 = some ⟨.int .i64, 1, 8, [.int], [.int .i64 0], []⟩ := by kernel_rfl
theorem ty32 : tyOf Tryd.prog 32 = some ⟨.struct [(0, 1, false), (1, 1, false), (2, 1, false)], 3, 32, [.int, .int, .str], [.int .i64 0, .int .i64 0, .str []], []⟩ := by kernel_rfl
theorem ty33 : tyOf Tryd.prog 33 = some ⟨.struct [(0, 1, false), (1, 1, false)], 2, 48, [], [.sl 2 (some true) true [], .sl 3 (some true) true []], []⟩ := by kernel_rfl
theorem ty40 : tyOf Tryd.prog 40 = some ⟨.slice 3, 1, 24, [], [.sl 1 (some true) true []], []⟩ := by kernel_rfl
theorem ty45 : tyOf Tryd.prog 45 = some ⟨.struct [(0, 1, false), (1, 3, true)], 4, 40, [.int, .int, .int, .str], [.int .i64 0, .int .i64 0, .int .i64 0, .str []], []⟩ := by kernel_rfl
theorem ty49 : tyOf Tryd.prog 49 = some ⟨.slice 148, 1, 24, [], [.sl 5 (some true) true []], []⟩ := by kernel_rfl
theorem ty51 : tyOf Tryd.prog 51 = some ⟨.struct [(0, 1, false), (1, 1, false), (2, 1, false)], 3, 64, [], [.str [], .sl 5 (some true) true [], .sl 3 (some true) true []], []⟩ := by kernel_rfl
theorem ty52 : tyOf Tryd.prog 52 = some ⟨.slice 9, 1, 24, [], [.sl 1 (some true) true []], []⟩ := by kernel_rfl
theorem ty53 : tyOf Tryd.prog 53 = some ⟨.int .i64, 1, 8, [.int], [.int .i64 0], []⟩ := by kernel_rfl
theorem ty58 : tyOf Tryd.prog 58 = some ⟨.struct [(0, 1, false), (1, 1, false)], 2, 32, [], [.sl 1 (some true) true [], .int .i64 0], []⟩ := by kernel_rfl
theorem ty66 : tyOf Tryd.prog 66 = some ⟨.slice 80, 1, 24, [], [.sl 3 (some true) true []], []⟩ := by kernel_rfl
theorem ty67 : tyOf Tryd.prog 67 = some ⟨.int .i64, 1, 8, [.int], [.int .i64 0], []⟩ := by kernel_rfl
theorem ty80 : tyOf Tryd.prog 80 = some ⟨.struct [(0, 1, false), (1, 1, false), (2, 1, false)], 3, 32, [.str, .int, .int], [.str [], .int .i64 0, .int .i64 0], []⟩ := by kernel_rfl
theorem ty82 : tyOf Tryd.prog 82 = some ⟨.slice 84, 1, 24, [], [.sl 3 (some true) true []], []⟩ := by kernel_rfl
theorem ty84 : tyOf Tryd.prog 84 = some ⟨.struct [(0, 1, false), (1, 1, false), (2, 1, false)], 3, 64, [], [.str [], .sl 5 (some true) true [], .sl 5 (some true) true []], []⟩ := by kernel_rfl
theorem ty94 : tyOf Tryd.prog 94 = some ⟨.other, 1, 8, [], [.fnil], []⟩ := by kernel_rfl
theorem ty96 : tyOf Tryd.prog 96 = some ⟨.other, 1, 8, [], [.fnil], []⟩ := by kernel_rfl
theorem ty108 : tyOf Tryd.prog 108 = some ⟨.other, 1, 8, [], [.fnil], []⟩ := by kernel_rfl
theorem ty110 : tyOf Tryd.prog 110 = some ⟨.ptr 112, 1, 8, [], [.pnil], []⟩ := by kernel_rfl
theorem ty112 : tyOf Tryd.prog 112 = some ⟨.struct [(0, 2, true), (2, 3, true), (5, 1, false), (6, 1, false), (7, 1, false)], 8, 152, [], [.sl 2 (some true) true [], .sl 3 (some true) true [], .str [], .sl 5 (some true) true [], .sl 3 (some true) true [], .int .i64 0, .sl 1 (some true) true [], .int .i64 0], []⟩ := by kernel_rfl
theorem ty113 : tyOf Tryd.prog 113 = some ⟨.other, 1, 8, [], [.fnil], []⟩ := by kernel_rfl
theorem ty115 : tyOf Tryd.prog 115 = some ⟨.array 501 3, 501, 4008, [], [], [.int .i64 0]⟩ := by kernel_rfl
theorem ty120 : tyOf Tryd.prog 120 = some ⟨.other, 1, 8, [], [.fnil], []⟩ := by kernel_rfl
theorem ty122 : tyOf Tryd.prog 122 = some ⟨.other, 1, 8, [], [.fnil], []⟩ := by kernel_rfl
theorem ty130 : tyOf Tryd.prog 130 = some ⟨.other, 1, 8, [], [.fnil], []⟩ := by kernel_rfl
theorem ty132 : tyOf Tryd.prog 132 = some ⟨.int .u64, 1, 8, [.int], [.int .u64 0], []⟩ := by kernel_rfl
theorem ty133 : tyOf Tryd.prog 133 = some ⟨.other, 1, 8, [], [.fnil], []⟩ := by kernel_rfl
theorem ty144 : tyOf Tryd.prog 144 = some ⟨.other, 1, 8, [], [.fnil], []⟩ := by kernel_rfl
theorem ty148 : tyOf Tryd.prog 148 = some ⟨.struct [(0, 1, false), (1, 1, false), (2, 3, true)], 5, 48, [.int, .int, .int, .int, .str], [.int .i64 0, .int .i64 0, .int .i64 0, .int .i64 0, .str []], []⟩ := by kernel_rfl
theorem ty150 : tyOf Tryd.prog 150 = some ⟨.other, 1, 8, [], [.fnil], []⟩ := by kernel_rfl
theorem ty152 : tyOf Tryd.prog 152 = some ⟨.array 3 49, 3, 72, [], [], [.sl 5 (some true) true []]⟩ := by kernel_rfl
theorem ty154 : tyOf Tryd.prog 154 = some ⟨.struct [(0, 1, false), (1, 3, true)], 4, 88, [], [.str [], .sl 5 (some true) true [], .sl 5 (some true) true [], .sl 5 (some true) true []], []⟩ := by kernel_rfl
theorem ty157 : tyOf Tryd.prog 157 = some ⟨.other, 1, 8, [], [.fnil], []⟩ := by kernel_rfl
theorem ty159 : tyOf Tryd.prog 159 = some ⟨.other, 1, 8, [], [.fnil], []⟩ := by kernel_rfl
theorem ty160 : tyOf Tryd.prog 160 = some ⟨.other, 1, 8, [], [.fnil], []⟩ := by kernel_rfl
theorem ty162 : tyOf Tryd.prog 162 = some ⟨.ptr 115, 1, 8, [], [.pnil], []⟩ := by kernel_rfl
theorem ty163 : tyOf Tryd.prog 163 = some ⟨.slice 66, 1, 24, [], [.sl 1 (some true) true []], []⟩ := by kernel_rfl
theorem ty170 : tyOf Tryd.prog 170 = some ⟨.other, 1, 8, [], [.fnil], []⟩ := by kernel_rfl
theorem ty171 : tyOf Tryd.prog 171 = some ⟨.other, 1, 8, [], [.fnil], []⟩ := by kernel_rfl
theorem ty174 : tyOf Tryd.prog 174 = some ⟨.other, 1, 8, [], [.fnil], []⟩ := by kernel_rfl
theorem ty179 : tyOf Tryd.prog 179 = some ⟨.slice 182, 1, 24, [], [.sl 2 (some true) true []], []⟩ := by kernel_rfl
theorem ty182 : tyOf Tryd.prog 182 = some ⟨.struct [(0, 1, false), (1, 1, false)], 2, 40, [], [.str [], .sl 5 (some true) true []], []⟩ := by kernel_rfl
theorem ty188 : tyOf Tryd.prog 188 = some ⟨.other, 1, 8, [], [.fnil], []⟩ := by kernel_rfl
theorem ty189 : tyOf Tryd.prog 189 = some ⟨.array 3 179, 3, 72, [], [], [.sl 2 (some true) true []]⟩ := by kernel_rfl
theorem ty193 : tyOf Tryd.prog 193 = some ⟨.int .i64, 1, 8, [.int], [.int .i64 0], []⟩ := by kernel_rfl
theorem ty200 : tyOf Tryd.prog 200 = some ⟨.int .u32, 1, 4, [.int], [.int .u32 0], []⟩ := by kernel_rfl
theorem ty202 : tyOf Tryd.prog 202 = some ⟨.int .u64, 1, 8, [.int], [.int .u64 0], []⟩ := by kernel_rfl
theorem ty206 : tyOf Tryd.prog 206 = some ⟨.other, 1, 8, [], [.fnil], []⟩ := by kernel_rfl
theorem ty208 : tyOf Tryd.prog 208 = some ⟨.other, 1, 8, [], [.fnil], []⟩ := by kernel_rfl
theorem ty220 : tyOf Tryd.prog 220 = some ⟨.int .u64, 1, 8, [.int], [.int .u64 0], []⟩ := by kernel_rfl
theorem ty224 : tyOf Tryd.prog 224 = some ⟨.ptr 3, 1, 8, [], [.pnil], []⟩ := by kernel_rfl
theorem ty231 : tyOf Tryd.prog 231 = some ⟨.other, 1, 8, [], [.fnil], []⟩ := by kernel_rfl
theorem ty233 : tyOf Tryd.prog 233 = some ⟨.ptr 220, 1, 8, [], [.pnil], []⟩ := by kernel_rfl
theorem ty236 : tyOf Tryd.prog 236 = some ⟨.other, 1, 8, [], [.fnil], []⟩ := by kernel_rfl
theorem ty237 : tyOf Tryd.prog 237 = some ⟨.other, 1, 8, [], [.fnil], []⟩ := by kernel_rfl
theorem ty239 : tyOf Tryd.prog 239 = some ⟨.struct [(0, 1, false)], 1, 8, [.int], [.int .i64 0], []⟩ := by kernel_rfl
theorem ty245 : tyOf Tryd.prog 245 = some ⟨.array 256 5, 256, 256, [], [], [.int .u8 0]⟩ := by kernel_rfl
theorem ty247 : tyOf Tryd.prog 247 = some ⟨.struct [(0, 1, false), (1, 1, false)], 2, 2, [.int, .int], [.int .u8 0, .int .u8 0], []⟩ := by kernel_rfl
theorem ty248 : tyOf Tryd.prog 248 = some ⟨.array 16 247, 32, 32, [], [], [.int .u8 0, .int .u8 0]⟩ := by kernel_rfl
theorem T_ok (t : TypeId) (y : Ty) (h : T t = some y) : tyOf Tryd.prog t = some y := by
  unfold T at h
  split at h <;> simp only [Option.some.injEq, reduceCtorEq] at h <;> subst h
  · exact ty1
  · exact ty3
  · exact ty4
  · exact ty5
  · exact ty9
  · exact ty20
  · exact ty21
  · exact ty22
  · exact ty26
  · exact ty27
  · exact ty29
  · exact ty30
  · exact ty32
  · exact ty33
  · exact ty40
  · exact ty45
  · exact ty49
  · exact ty51
  · exact ty52
  · exact ty53
  · exact ty58
  · exact ty66
  · exact ty67
  · exact ty80
  · exact ty82
  · exact ty84
  · exact ty94
  · exact ty96
  · exact ty108
  · exact ty110
  · exact ty112
  · exact ty113
  · exact ty115
  · exact ty120
  · exact ty122
  · exact ty130
  · exact ty132
  · exact ty133
  · exact ty144
  · exact ty148
  · exact ty150
  · exact ty152
  · exact ty154
  · exact ty157
  · exact ty159
  · exact ty160
  · exact ty162
  · exact ty163
  · exact ty170
  · exact ty171
  · exact ty174
  · exact ty179
  · exact ty182
  · exact ty188
  · exact ty189
  · exact ty193
  · exact ty200
  · exact ty202
  · exact ty206
  · exact ty208
  · exact ty220
  · exact ty224
  · exact ty231
  · exact ty233
  · exact ty236
  · exact ty237
  · exact ty239
  · exact ty245
  · exact ty247
  · exact ty248

noncomputable def B0 : FuncId → Option Func := fun g => match g with
  | 3 => some Tryd.f3
  | 4 => some Tryd.f4
  | 5 => some Tryd.f5
  | 6 => some Tryd.f6
  | 7 => some Tryd.f7
  | 8 => some Tryd.f8
  | 9 => some Tryd.f9
  | 10 => some Tryd.f10
  | 11 => some Tryd.f11
  | 12 => some Tryd.f12
  | 13 => some Tryd.f13
  | 14 => some Tryd.f14
  | 15 => some Tryd.f15
  | 16 => some Tryd.f16
  | 17 => some Tryd.f17
  | 18 => some Tryd.f18
  | 19 => some Tryd.f19
  | 20 => some Tryd.f20
  | 21 => some Tryd.f21
  | 22 => some Tryd.f22
  | 23 => some Tryd.f23
  | 24 => some Tryd.f24
  | 25 => some Tryd.f25
  | 26 => some Tryd.f26
  | 27 => some Tryd.f27
  | 28 => some Tryd.f28
  | 29 => some Tryd.f29
  | 30 => some Tryd.f30
  | 31 => some Tryd.f31
  | 32 => some Tryd.f32
  | 33 => some Tryd.f33
  | 34 => some Tryd.f34
  | 35 => some Tryd.f35
  | 36 => some Tryd.f36
  | 37 => some Tryd.f37
  | 38 => some Tryd.f38
  | 39 => some Tryd.f39
  | 40 => some Tryd.f40
  | 41 => some Tryd.f41
  | 42 => some Tryd.f42
  | 43 => some Tryd.f43
  | 44 => some Tryd.f44
  | 45 => some Tryd.f45
  | 46 => some Tryd.f46
  | 47 => some Tryd.f47
  | 48 => some Tryd.f48
  | 49 => some Tryd.f49
  | 50 => some Tryd.f50
  | 51 => some Tryd.f51
  | 52 => some Tryd.f52
  | 53 => some Tryd.f53
  | 54 => some Tryd.f54
  | 55 => some Tryd.f55
  | 56 => some Tryd.f56
  | 57 => some Tryd.f57
  | 58 => some Tryd.f58
  | 59 => some Tryd.f59
  | 60 => some Tryd.f60
  | 61 => some Tryd.f61
  | 62 => some Tryd.f62
  | 63 => some Tryd.f63
  | 64 => some Tryd.f64
  | 65 => some Tryd.f65
  | 66 => some Tryd.f66
  | 67 => some Tryd.f67
  | 68 => some Tryd.f68
  | 69 => some Tryd.f69
  | 70 => some Tryd.f70
  | 71 => some Tryd.f71
  | 72 => some Tryd.f72
  | _ => none
theorem B0_ok (g : FuncId) (fn : Func) (h : B0 g = some fn) : Tryd.prog.funcs[g]? = some fn := by
  unfold B0 at h
  split at h <;> simp only [Option.some.injEq, reduceCtorEq] at h <;> subst h
  · exact Tryd.func3
  · exact Tryd.func4
  · exact Tryd.func5
  · exact Tryd.func6
  · exact Tryd.func7
  · exact Tryd.func8
  · exact Tryd.func9
  · exact Tryd.func10
  · exact Tryd.func11
  · exact Tryd.func12
  · exact Tryd.func13
  · exact Tryd.func14
  · exact Tryd.func15
  · exact Tryd.func16
  · exact Tryd.func17
  · exact Tryd.func18
  · exact Tryd.func19
  · exact Tryd.func20
  · exact Tryd.func21
  · exact Tryd.func22
  · exact Tryd.func23
  · exact Tryd.func24
  · exact Tryd.func25
  · exact Tryd.func26
  · exact Tryd.func27
  · exact Tryd.func28
  · exact Tryd.func29
  · exact Tryd.func30
  · exact Tryd.func31
  · exact Tryd.func32
  · exact Tryd.func33
  · exact Tryd.func34
  · exact Tryd.func35
  · exact Tryd.func36
  · exact Tryd.func37
  · exact Tryd.func38
  · exact Tryd.func39
  · exact Tryd.func40
  · exact Tryd.func41
  · exact Tryd.func42
  · exact Tryd.func43
  · exact Tryd.func44
  · exact Tryd.func45
  · exact Tryd.func46
  · exact Tryd.func47
  · exact Tryd.func48
  · exact Tryd.func49
  · exact Tryd.func50
  · exact Tryd.func51
  · exact Tryd.func52
  · exact Tryd.func53
  · exact Tryd.func54
  · exact Tryd.func55
  · exact Tryd.func56
  · exact Tryd.func57
  · exact Tryd.func58
  · exact Tryd.func59
  · exact Tryd.func60
  · exact Tryd.func61
  · exact Tryd.func62
  · exact Tryd.func63
  · exact Tryd.func64
  · exact Tryd.func65
  · exact Tryd.func66
  · exact Tryd.func67
  · exact Tryd.func68
  · exact Tryd.func69
  · exact Tryd.func70
  · exact Tryd.func71
  · exact Tryd.func72
theorem B0_enter (g : FuncId) (fn : Func) (h : B0 g = some fn) (_ : fn.body.isSome = true) : (fn.name == "runtime.NumGoroutine") = false := by
  unfold B0 at h
  split at h <;> simp only [Option.some.injEq, reduceCtorEq] at h <;> subst h <;> kernel_rfl
noncomputable def B1 : FuncId → Option Func := fun g => match g with
  | 73 => some Tryd.f73
  | 74 => some Tryd.f74
  | 75 => some Tryd.f75
  | 76 => some Tryd.f76
  | 77 => some Tryd.f77
  | 78 => some Tryd.f78
  | 79 => some Tryd.f79
  | 80 => some Tryd.f80
  | 81 => some Tryd.f81
  | 82 => some Tryd.f82
  | 83 => some Tryd.f83
  | 84 => some Tryd.f84
  | 85 => some Tryd.f85
  | 86 => some Tryd.f86
  | 87 => some Tryd.f87
  | 88 => some Tryd.f88
  | 89 => some Tryd.f89
  | 90 => some Tryd.f90
  | 91 => some Tryd.f91
  | 92 => some Tryd.f92
  | 93 => some Tryd.f93
  | 94 => some Tryd.f94
  | 95 => some Tryd.f95
  | 96 => some Tryd.f96
  | 97 => some Tryd.f97
  | 98 => some Tryd.f98
  | 99 => some Tryd.f99
  | 100 => some Tryd.f100
  | 101 => some Tryd.f101
  | 102 => some Tryd.f102
  | 103 => some Tryd.f103
  | 104 => some Tryd.f104
  | 105 => some Tryd.f105
  | 106 => some Tryd.f106
  | 107 => some Tryd.f107
  | 108 => some Tryd.f108
  | 109 => some Tryd.f109
  | 110 => some Tryd.f110
  | 111 => some Tryd.f111
  | 112 => some Tryd.f112
  | 113 => some Tryd.f113
  | 114 => some Tryd.f114
  | 115 => some Tryd.f115
  | 116 => some Tryd.f116
  | 117 => some Tryd.f117
  | 118 => some Tryd.f118
  | 119 => some Tryd.f119
  | 120 => some Tryd.f120
  | 121 => some Tryd.f121
  | 122 => some Tryd.f122
  | 123 => some Tryd.f123
  | 124 => some Tryd.f124
  | 125 => some Tryd.f125
  | 126 => some Tryd.f126
  | 127 => some Tryd.f127
  | 128 => some Tryd.f128
  | 129 => some Tryd.f129
  | 130 => some Tryd.f130
  | 131 => some Tryd.f131
  | 132 => some Tryd.f132
  | 133 => some Tryd.f133
  | 134 => some Tryd.f134
  | 135 => some Tryd.f135
  | 136 => some Tryd.f136
  | 137 => some Tryd.f137
  | 138 => some Tryd.f138
  | 139 => some Tryd.f139
  | 140 => some Tryd.f140
  | 141 => some Tryd.f141
  | 142 => some Tryd.f142
  | _ => none
theorem B1_ok (g : FuncId) (fn : Func) (h : B1 g = some fn) : Tryd.prog.funcs[g]? = some fn := by
  unfold B1 at h
  split at h <;> simp only [Option.some.injEq, reduceCtorEq] at h <;> subst h
  · exact Tryd.func73
  · exact Tryd.func74
  · exact Tryd.func75
  · exact Tryd.func76
  · exact Tryd.func77
  · exact Tryd.func78
  · exact Tryd.func79
  · exact Tryd.func80
  · exact Tryd.func81
  · exact Tryd.func82
  · exact Tryd.func83
  · exact Tryd.func84
  · exact Tryd.func85
  · exact Tryd.func86
  · exact Tryd.func87
  · exact Tryd.func88
  · exact Tryd.func89
  · exact Tryd.func90
  · exact Tryd.func91
  · exact Tryd.func92
  · exact Tryd.func93
  · exact Tryd.func94
  · exact Tryd.func95
  · exact Tryd.func96
  · exact Tryd.func97
  · exact Tryd.func98
  · exact Tryd.func99
  · exact Tryd.func100
  · exact Tryd.func101
  · exact Tryd.func102
  · exact Tryd.func103
  · exact Tryd.func104
  · exact Tryd.func105
  · exact Tryd.func106
  · exact Tryd.func107
  · exact Tryd.func108
  · exact Tryd.func109
  · exact Tryd.func110
  · exact Tryd.func111
  · exact Tryd.func112
  · exact Tryd.func113
  · exact Tryd.func114
  · exact Tryd.func115
  · exact Tryd.func116
  · exact Tryd.func117
  · exact Tryd.func118
  · exact Tryd.func119
  · exact Tryd.func120
  · exact Tryd.func121
  · exact Tryd.func122
  · exact Tryd.func123
  · exact Tryd.func124
  · exact Tryd.func125
  · exact Tryd.func126
  · exact Tryd.func127
  · exact Tryd.func128
  · exact Tryd.func129
  · exact Tryd.func130
  · exact Tryd.func131
  · exact Tryd.func132
  · exact Tryd.func133
  · exact Tryd.func134
  · exact Tryd.func135
  · exact Tryd.func136
  · exact Tryd.func137
  · exact Tryd.func138
  · exact Tryd.func139
  · exact Tryd.func140
  · exact Tryd.func141
  · exact Tryd.func142
theorem B1_enter (g : FuncId) (fn : Func) (h : B1 g = some fn) (_ : fn.body.isSome = true) : (fn.name == "runtime.NumGoroutine") = false := by
  unfold B1 at h
  split at h <;> simp only [Option.some.injEq, reduceCtorEq] at h <;> subst h <;> kernel_rfl
noncomputable def B2 : FuncId → Option Func := fun g => match g with
  | 143 => some Tryd.f143
  | 144 => some Tryd.f144
  | 145 => some Tryd.f145
  | 146 => some Tryd.f146
  | 147 => some Tryd.f147
  | 148 => some Tryd.f148
  | 149 => some Tryd.f149
  | 150 => some Tryd.f150
  | 151 => some Tryd.f151
  | 152 => some Tryd.f152
  | 153 => some Tryd.f153
  | 154 => some Tryd.f154
  | 155 => some Tryd.f155
  | 156 => some Tryd.f156
  | 157 => some Tryd.f157
  | 158 => some Tryd.f158
  | 159 => some Tryd.f159
  | 160 => some Tryd.f160
  | 161 => some Tryd.f161
  | 162 => some Tryd.f162
  | 163 => some Tryd.f163
  | 164 => some Tryd.f164
  | 165 => some Tryd.f165
  | 166 => some Tryd.f166
  | 167 => some Tryd.f167
  | 168 => some Tryd.f168
  | 169 => some Tryd.f169
  | 170 => some Tryd.f170
  | 171 => some Tryd.f171
  | 172 => some Tryd.f172
  | 173 => some Tryd.f173
  | 174 => some Tryd.f174
  | 175 => some Tryd.f175
  | 176 => some Tryd.f176
  | 177 => some Tryd.f177
  | 178 => some Tryd.f178
  | 179 => some Tryd.f179
  | 180 => some Tryd.f180
  | 181 => some Tryd.f181
  | 182 => some Tryd.f182
  | 183 => some Tryd.f183
  | 184 => some Tryd.f184
  | 185 => some Tryd.f185
  | 186 => some Tryd.f186
  | 187 => some Tryd.f187
  | 188 => some Tryd.f188
  | 189 => some Tryd.f189
  | 190 => some Tryd.f190
  | 191 => some Tryd.f191
  | 192 => some Tryd.f192
  | 193 => some Tryd.f193
  | 194 => some Tryd.f194
  | 195 => some Tryd.f195
  | 196 => some Tryd.f196
  | 197 => some Tryd.f197
  | 198 => some Tryd.f198
  | 199 => some Tryd.f199
  | 200 => some Tryd.f200
  | 201 => some Tryd.f201
  | 202 => some Tryd.f202
  | 203 => some Tryd.f203
  | 204 => some Tryd.f204
  | 205 => some Tryd.f205
  | 206 => some Tryd.f206
  | 207 => some Tryd.f207
  | 208 => some Tryd.f208
  | 209 => some Tryd.f209
  | 210 => some Tryd.f210
  | 211 => some Tryd.f211
  | 212 => some Tryd.f212
  | _ => none
theorem B2_ok (g : FuncId) (fn : Func) (h : B2 g = some fn) : Tryd.prog.funcs[g]? = some fn := by
  unfold B2 at h
  split at h <;> simp only [Option.some.injEq, reduceCtorEq] at h <;> subst h
  · exact Tryd.func143
  · exact Tryd.func144
  · exact Tryd.func145
  · exact Tryd.func146
  · exact Tryd.func147
  · exact Tryd.func148
  · exact Tryd.func149
  · exact Tryd.func150
  · exact Tryd.func151
  · exact Tryd.func152
  · exact Tryd.func153
  · exact Tryd.func154
  · exact Tryd.func155
  · exact Tryd.func156
  · exact Tryd.func157
  · exact Tryd.func158
  · exact Tryd.func159
  · exact Tryd.func160
  · exact Tryd.func161
  · exact Tryd.func162
  · exact Tryd.func163
  · exact Tryd.func164
  · exact Tryd.func165
  · exact Tryd.func166
  · exact Tryd.func167
  · exact Tryd.func168
  · exact Tryd.func169
  · exact Tryd.func170
  · exact Tryd.func171
  · exact Tryd.func172
  · exact Tryd.func173
  · exact Tryd.func174
  · exact Tryd.func175
  · exact Tryd.func176
  · exact Tryd.func177
  · exact Tryd.func178
  · exact Tryd.func179
  · exact Tryd.func180
  · exact Tryd.func181
  · exact Tryd.func182
  · exact Tryd.func183
  · exact Tryd.func184
  · exact Tryd.func185
  · exact Tryd.func186
  · exact Tryd.func187
  · exact Tryd.func188
  · exact Tryd.func189
  · exact Tryd.func190
  · exact Tryd.func191
  · exact Tryd.func192
  · exact Tryd.func193
  · exact Tryd.func194
  · exact Tryd.func195
  · exact Tryd.func196
  · exact Tryd.func197
  · exact Tryd.func198
  · exact Tryd.func199
  · exact Tryd.func200
  · exact Tryd.func201
  · exact Tryd.func202
  · exact Tryd.func203
  · exact Tryd.func204
  · exact Tryd.func205
  · exact Tryd.func206
  · exact Tryd.func207
  · exact Tryd.func208
  · exact Tryd.func209
  · exact Tryd.func210
  · exact Tryd.func211
  · exact Tryd.func212
theorem B2_enter (g : FuncId) (fn : Func) (h : B2 g = some fn) (_ : fn.body.isSome = true) : (fn.name == "runtime.NumGoroutine") = false := by
  unfold B2 at h
  split at h <;> simp only [Option.some.injEq, reduceCtorEq] at h <;> subst h <;> kernel_rfl
noncomputable def B3 : FuncId → Option Func := fun g => match g with
  | 213 => some Tryd.f213
  | _ => none
theorem B3_ok (g : FuncId) (fn : Func) (h : B3 g = some fn) : Tryd.prog.funcs[g]? = some fn := by
  unfold B3 at h
  split at h <;> simp only [Option.some.injEq, reduceCtorEq] at h <;> subst h
  · exact Tryd.func213
theorem B3_enter (g : FuncId) (fn : Func) (h : B3 g = some fn) (_ : fn.body.isSome = true) : (fn.name == "runtime.NumGoroutine") = false := by
  unfold B3 at h
  split at h <;> simp only [Option.some.injEq, reduceCtorEq] at h <;> subst h <;> kernel_rfl
noncomputable def B : FuncId → Option Func := fun g => if g < 73 then B0 g else if g < 143 then B1 g else if g < 213 then B2 g else B3 g
theorem B_ok (g : FuncId) (fn : Func) (h : B g = some fn) : Tryd.prog.funcs[g]? = some fn := by
  unfold B at h
  split at h
  · exact B0_ok g fn h
  split at h
  · exact B1_ok g fn h
  split at h
  · exact B2_ok g fn h
  exact B3_ok g fn h
theorem B_enter (g : FuncId) (fn : Func) (h : B g = some fn) (k : fn.body.isSome = true) : (fn.name == "runtime.NumGoroutine") = false := by
  unfold B at h
  split at h
  · exact B0_enter g fn h k
  split at h
  · exact B1_enter g fn h k
  split at h
  · exact B2_enter g fn h k
  exact B3_enter g fn h k

def lv : FuncId → Nat → Option (List Nat) := fun g r => match g with
  | 3 => (match r with | 0 => some [0, 1] | 1 => some [0, 1, 9] | 2 => some [4] | 3 => some [5, 6] | 4 => some [4] | _ => none)
  | 4 => (match r with | 0 => some [1, 2, 3, 5, 9] | 1 => some [1, 2, 3, 5, 9, 28] | 2 => some [10] | 3 => some [1, 2, 3, 5, 9, 11, 12] | 4 => some [1, 2, 3, 5, 9, 11, 12, 13, 14] | 5 => some [10] | _ => none)
  | 5 => (match r with | 0 => some [1, 2, 3, 4] | 1 => some [1, 2, 3, 4, 27] | 2 => some [8] | 3 => some [1, 2, 3, 4, 9] | 4 => some [1, 2, 3, 4, 9, 10] | 5 => some [1, 2, 3, 4, 9, 10, 11] | 6 => some [1, 2, 3, 4, 9, 10, 11, 41] | 7 => some [1, 2, 3, 4, 9, 10, 11] | 8 => some [1, 2, 3, 4, 9, 10, 11, 12] | 9 => some [1, 2, 3, 4, 9, 10, 11, 12, 14] | 10 => some [1, 2, 3, 4, 9, 10, 11, 12, 14, 15] | 11 => some [1, 2, 3, 4, 9, 10, 11, 12, 14, 15, 58] | 12 => some [1, 2, 3, 4, 9, 10, 11, 12, 14, 15] | 13 => some [1, 2, 3, 4, 9, 10, 11, 12, 14, 15, 70] | 14 => some [1, 2, 3, 4, 9, 10, 11, 12, 14, 15] | 15 => some [1, 2, 3, 4, 9, 10, 11, 12, 101] | 16 => some [9, 12, 17] | 17 => some [8] | 18 => some [1, 2, 3, 4, 9, 18] | 19 => some [1, 2, 3, 4, 9, 18, 19] | 20 => some [1, 2, 3, 4, 9, 18, 19, 138] | 21 => some [1, 2, 3, 4, 18] | 22 => some [8] | _ => none)
  | 6 => (match r with | 0 => some [1, 2, 3, 4] | 1 => some [1, 2, 3, 4, 26] | 2 => some [8] | 3 => some [1, 2, 3, 4, 9, 10] | 4 => some [1, 2, 3, 4, 9, 10, 11] | 5 => some [1, 2, 3, 4, 9, 10, 11, 12] | 6 => some [1, 2, 3, 4, 9, 11, 12, 48] | 7 => some [8] | 8 => some [1, 2, 3, 4, 9, 11, 12, 13] | 9 => some [1, 2, 3, 4, 9, 11, 12, 13, 14] | 10 => some [1, 2, 3, 4, 9, 11, 12, 13, 14, 15] | 11 => some [1, 2, 3, 4, 9, 11, 12, 13, 14, 15, 16] | 12 => some [1, 2, 3, 4, 9, 11, 12, 13, 14, 15, 16, 71] | 13 => some [1, 2, 3, 4, 9, 11, 12, 13, 14, 15, 16] | 14 => some [1, 2, 3, 4, 9, 11, 12, 13, 14, 15, 16, 17] | 15 => some [1, 2, 3, 4, 9, 11, 12, 13, 14, 15, 16, 17, 87] | 16 => some [1, 2, 3, 4, 9, 11, 12, 13, 14, 15, 16, 17] | 17 => some [1, 2, 3, 4, 9, 11, 12, 13, 14, 15, 16] | 18 => some [8] | _ => none)
  | 7 => (match r with | 0 => some [1, 2] | 1 => some [1, 2, 23] | 2 => some [4] | 3 => some [1, 2, 5, 6, 7] | 4 => some [1, 2, 50] | 5 => some [4] | 6 => some [1, 2, 8] | 7 => some [1, 2, 8, 9, 10, 11] | 8 => some [1, 2, 8, 9, 10, 11, 68] | 9 => some [4] | 10 => some [1, 2, 8, 9, 10, 11, 96] | 11 => some [4] | 12 => some [1, 2, 8, 9, 10, 11, 12, 13, 14] | 13 => some [4] | _ => none)
  | 8 => (match r with | 0 => some [1, 2, 3, 4] | 1 => some [1, 2, 3, 4, 47] | 2 => some [8] | 3 => some [1, 2, 3, 4, 9] | 4 => some [3, 4, 9, 11, 12, 13, 14] | 5 => some [4, 9, 11, 12, 13, 14, 15] | 6 => some [9, 11, 12, 13, 14, 15, 16] | 7 => some [9, 11, 12, 13, 14, 15, 16, 17] | 8 => some [9, 11, 12, 13, 14, 15, 16, 17, 71] | 9 => some [9, 11, 12, 13, 14, 15, 16, 17] | 10 => some [9, 11, 12, 13, 14, 15, 16, 17, 18, 19, 20] | 11 => some [9, 11, 12, 13, 14, 15, 16, 17, 18, 19, 20, 86] | 12 => some [8] | 13 => some [9, 11, 12, 13, 14, 15, 16, 17, 18, 117] | 14 => some [8] | 15 => some [9, 11, 12, 13, 14, 16, 17, 18] | 16 => some [9, 11, 12, 13, 14, 16, 17] | 17 => some [9, 11, 12, 13, 14, 15, 16, 17] | 18 => some [8] | _ => none)
  | 9 => (match r with | 0 => some [1, 2, 3] | 1 => some [1, 2, 3, 30] | 2 => some [6] | 3 => some [1, 2, 3, 7, 8] | 4 => some [1, 2, 3, 7, 51] | 5 => some [6] | 6 => some [1, 2, 3, 7, 9] | 7 => some [1, 2, 3, 7, 9, 55] | 8 => some [1, 2, 3, 7, 9] | 9 => some [1, 2, 3, 7, 9, 82] | 10 => some [6] | 11 => some [1, 2, 3, 7, 9, 10] | 12 => some [1, 2, 3, 7, 9, 129] | 13 => some [6] | 14 => some [1, 2, 3, 7, 132] | 15 => some [6] | 16 => some [1, 2, 3, 7, 11] | 17 => some [1, 2, 3, 7, 11, 145] | 18 => some [6] | 19 => some [2, 3, 7, 12, 13, 14, 15] | 20 => some [6] | _ => none)
  | 10 => (match r with | 0 => some [0, 1, 2] | 1 => some [0, 1, 2, 18] | 2 => some [6] | 3 => some [0, 1, 2, 7, 8] | 4 => some [0, 2, 7, 8, 9, 10] | 5 => some [6] | _ => none)
  | 11 => (match r with | 0 => some [0, 1, 2] | 1 => some [0, 1, 2, 30] | 2 => some [6] | 3 => some [0, 1, 2, 7, 8] | 4 => some [0, 1, 2, 7, 8, 9, 10] | 5 => some [0, 1, 2, 7, 8, 52] | 6 => some [6] | 7 => some [0, 1, 2, 7, 54] | 8 => some [6] | 9 => some [0, 1, 2, 7, 11, 12, 13] | 10 => some [0, 1, 2, 7, 11, 12, 13, 14] | 11 => some [0, 1, 2, 7, 11, 12, 13, 14, 73] | 12 => some [0, 1, 2, 7, 11, 12, 13, 14] | 13 => some [0, 1, 2, 7, 11, 12, 13, 14, 15] | 14 => some [0, 1, 2, 7, 11, 12, 13, 14, 15, 16] | 15 => some [0, 1, 2, 7, 11, 12, 13, 14, 15, 16, 79] | 16 => some [0, 1, 2, 7, 11, 12, 13, 14, 15, 16] | 17 => some [0, 1, 2, 7, 11, 12, 13, 14, 15, 16] | 18 => some [0, 1, 2, 7, 11, 12, 13, 14, 15, 17] | 19 => some [0, 1, 2, 7, 11, 12, 13, 14, 15, 17, 97] | 20 => some [0, 1, 2, 7, 11, 12, 13, 14, 15, 17] | 21 => some [0, 1, 2, 7, 11, 12, 13, 14, 15, 17] | 22 => some [0, 1, 2, 7, 11, 12, 13, 14, 140] | 23 => some [6] | 24 => some [6] | _ => none)
  | 12 => (match r with | 0 => some [0, 1, 2, 3, 4] | 1 => some [0, 1, 2, 3, 4, 33] | 2 => some [10] | 3 => some [0, 1, 2, 3, 4, 11] | 4 => some [0, 1, 2, 3, 4, 11, 38] | 5 => some [0, 1, 2, 3, 4, 11] | 6 => some [0, 1, 2, 3, 4, 11, 65] | 7 => some [10] | 8 => some [0, 1, 2, 3, 4, 12, 13] | 9 => some [2, 3, 4, 12, 13, 14, 15] | 10 => some [10] | _ => none)
  | 13 => (match r with | 0 => some [0, 1] | 1 => some [0, 1, 23] | 2 => some [4] | 3 => some [0, 1, 5] | 4 => some [0, 1, 5, 6] | 5 => some [0, 1, 5, 6, 7] | 6 => some [0, 1, 5, 6, 7, 31] | 7 => some [0, 1, 5, 6, 7] | 8 => some [0, 1, 5, 6, 7, 54] | 9 => some [0, 1, 5, 6, 7, 69] | 10 => some [4] | 11 => some [0, 1, 5, 6, 7] | 12 => some [0, 1, 5, 6, 8] | 13 => some [0, 1, 5, 6, 8, 9] | 14 => some [0, 1, 5, 6, 8, 9, 10] | 15 => some [0, 1, 5, 6, 8, 9, 10, 78] | 16 => some [0, 1, 5, 6, 8, 9, 10] | 17 => some [0, 1, 5, 6, 8, 9, 10] | 18 => some [4] | _ => none)
  | 14 => (match r with | 0 => some [] | 1 => some [1] | 2 => some [0] | _ => none)
  | 15 => (match r with | 0 => some [0, 1] | 1 => some [0, 1, 9, 10] | 2 => some [0, 1, 9, 10, 11] | 3 => some [0, 1, 5, 9, 10] | 4 => some [0, 1, 9, 10, 28] | 5 => some [4] | 6 => some [0, 1, 9, 10] | 7 => some [6] | 8 => some [4] | _ => none)
  | 16 => (match r with | 0 => some [0, 1] | 1 => some [0, 1, 5] | 2 => some [0, 1, 5, 6] | 3 => some [0, 1, 5, 6, 10] | 4 => some [0, 1, 5, 6] | 5 => some [0, 1, 5, 6, 28] | 6 => some [4] | 7 => some [0, 1, 5, 6, 35] | 8 => some [0, 1, 5, 6] | 9 => some [4] | _ => none)
  | 17 => (match r with | 0 => some [1] | 1 => some [1, 15] | 2 => some [2] | 3 => some [1, 3] | 4 => some [1, 3, 4] | 5 => some [1, 3, 4, 24] | 6 => some [1, 3, 4] | 7 => some [1, 3, 4] | 8 => some [1, 3, 5] | 9 => some [1, 3, 5, 38] | 10 => some [1, 3, 5] | 11 => some [1, 3, 5, 48] | 12 => some [2] | 13 => some [2] | _ => none)
  | 18 => (match r with | 0 => some [1, 2, 3, 4, 8, 9] | 1 => some [8, 9, 15] | 2 => some [8, 9, 10] | 3 => some [] | 4 => some [8, 9] | _ => none)
  | 19 => (match r with | 0 => some [1, 2, 3, 4, 8] | 1 => some [1, 2, 3, 4, 8, 14] | 2 => some [8, 9] | 3 => some [8, 10] | 4 => some [8, 9] | _ => none)
  | 20 => (match r with | 0 => some [0, 1] | 1 => some [0, 1, 10] | 2 => some [4] | 3 => some [0, 1, 5] | 4 => some [0, 1, 5, 14] | 5 => some [0, 1, 5] | 6 => some [0, 1, 5, 25] | 7 => some [4] | 8 => some [4] | _ => none)
  | 21 => (match r with | 0 => some [1, 2, 3, 4, 8] | 1 => some [1, 2, 3, 4, 8, 9] | 2 => some [8, 9, 17] | 3 => some [9, 10] | 4 => some [9, 10, 11] | 5 => some [9, 10, 11, 33] | 6 => some [] | 7 => some [] | 8 => some [9, 12] | 9 => some [9, 12, 55] | 10 => some [9] | 11 => some [9] | 12 => some [8] | _ => none)
  | 22 => (match r with | 0 => some [1, 2, 3, 4] | 1 => some [1, 2, 3, 4, 17] | 2 => some [8] | 3 => some [2, 3, 4, 9] | 4 => some [2, 3, 4, 9, 10] | 5 => some [2, 3, 4, 9, 10, 11] | 6 => some [2, 3, 4, 9, 10, 11, 12] | 7 => some [2, 3, 4, 9, 10, 11, 12, 27] | 8 => some [2, 3, 4, 9, 10, 11, 12] | 9 => some [2, 3, 4, 9, 10, 11, 12, 13] | 10 => some [2, 3, 4, 9, 10, 11, 12, 13, 40] | 11 => some [2, 3, 4, 9, 10, 11, 12, 13] | 12 => some [2, 3, 4, 9, 10, 11, 12] | 13 => some [8] | _ => none)
  | 23 => (match r with | 0 => some [1, 2, 3, 4] | 1 => some [9] | 2 => some [9, 10] | 3 => some [9, 10, 29] | 4 => some [8] | 5 => some [8] | _ => none)
  | 24 => (match r with | 0 => some [1, 2, 3, 4] | 1 => some [1, 2, 3, 4, 9, 10] | 2 => some [1, 2, 3, 4, 9, 23] | 3 => some [8] | 4 => some [1, 2, 3, 4, 9, 11] | 5 => some [2, 3, 4, 9, 11, 12] | 6 => some [2, 3, 4, 9, 11, 12, 13] | 7 => some [2, 3, 4, 9, 11, 12, 13, 44] | 8 => some [2, 3, 4, 9, 11, 12, 13] | 9 => some [2, 3, 4, 9, 11, 12, 13] | 10 => some [8] | _ => none)
  | 25 => (match r with | 0 => some [0, 1] | 1 => some [0, 1, 10] | 2 => some [4] | 3 => some [0, 1, 5] | 4 => some [0, 1, 5, 14] | 5 => some [0, 1, 5] | 6 => some [0, 1, 5, 25] | 7 => some [4] | 8 => some [4] | _ => none)
  | 26 => (match r with | 0 => some [1, 2, 3, 5, 9, 10] | 1 => some [1, 2, 3, 5, 9, 10, 11] | 2 => some [9, 10, 11, 17] | 3 => some [9, 11, 12] | 4 => some [11, 12, 27] | 5 => some [] | 6 => some [10] | _ => none)
  | 27 => (match r with | 0 => some [1, 2, 3, 5, 9] | 1 => some [1, 2, 3, 5, 9, 22] | 2 => some [10] | 3 => some [2, 3, 5, 9, 11] | 4 => some [2, 3, 5, 9, 11, 12] | 5 => some [2, 3, 5, 9, 11, 12, 13] | 6 => some [2, 3, 5, 9, 11, 12, 13, 30] | 7 => some [2, 3, 5, 9, 11, 12, 13] | 8 => some [2, 3, 5, 9, 11, 12, 13, 42] | 9 => some [2, 3, 5, 9, 11, 12, 13] | 10 => some [10] | _ => none)
  | 28 => (match r with | 0 => some [0, 1] | 1 => some [0, 1, 11] | 2 => some [4] | 3 => some [0, 1, 5] | 4 => some [0, 5, 6] | 5 => some [0, 5, 6, 22] | 6 => some [0, 5, 6] | 7 => some [0, 5, 6] | 8 => some [4] | _ => none)
  | 29 => (match r with | 0 => some [0, 1] | 1 => some [0, 1, 5] | 2 => some [0, 1, 5, 9] | 3 => some [0, 1, 5] | 4 => some [0, 1, 5, 17] | 5 => some [4] | 6 => some [4] | _ => none)
  | 30 => (match r with | 0 => some [1, 2] | 1 => some [4] | _ => none)
  | 31 => (match r with | 0 => some [] | 1 => some [1, 2, 3] | 2 => some [1, 2, 3, 4, 5, 6] | 3 => some [1, 2, 3, 4, 5, 6, 7, 8] | 4 => some [0] | _ => none)
  | 32 => (match r with | 0 => some [1, 2, 3, 6] | 1 => some [1, 2, 3, 6, 9] | 2 => some [1, 2, 3, 6, 9, 16] | 3 => some [6, 7, 8] | 4 => some [6, 7, 8] | _ => none)
  | 33 => (match r with | 0 => some [2, 3] | 1 => some [2, 3, 27] | 2 => some [4] | 3 => some [2, 3, 5] | 4 => some [2, 3, 5, 32] | 5 => some [2, 3, 5] | 6 => some [2, 3, 5, 46] | 7 => some [4] | 8 => some [4] | _ => none)
  | 34 => (match r with | 0 => some [1, 2, 3, 6] | 1 => some [1, 2, 3, 6, 9] | 2 => some [1, 2, 3, 6, 9, 16] | 3 => some [6, 7, 8] | 4 => some [6, 7, 8] | _ => none)
  | 35 => (match r with | 0 => some [1, 2, 3] | 1 => some [1, 2, 3, 8] | 2 => some [1, 2, 3, 8, 15] | 3 => some [6, 7] | 4 => some [6, 7] | _ => none)
  | 36 => (match r with | 0 => some [1, 2, 3, 4, 8] | 1 => some [1, 2, 3, 4, 8, 12] | 2 => some [1, 2, 3, 4, 8, 12, 21] | 3 => some [8, 9, 10, 11] | 4 => some [1, 2, 4, 8, 13] | 5 => some [8, 13] | 6 => some [8, 9, 10, 11] | _ => none)
  | 37 => (match r with | 0 => some [0, 1, 2] | 1 => some [0, 1, 2, 13] | 2 => some [6] | 3 => some [0, 1, 2, 7] | 4 => some [1, 7] | 5 => some [6] | _ => none)
  | 38 => (match r with | 0 => some [0] | 1 => some [0, 6] | 2 => some [2] | 3 => some [0, 3] | 4 => some [0, 3, 10] | 5 => some [0, 3] | 6 => some [0, 3, 19] | 7 => some [2] | 8 => some [2] | _ => none)
  | 39 => (match r with | 0 => some [] | 1 => some [1, 2] | 2 => some [1, 2, 3, 4] | 3 => some [0] | _ => none)
  | 40 => (match r with | 0 => some [0, 1] | 1 => some [0, 1, 15] | 2 => some [4, 5] | 3 => some [6] | 4 => some [6] | 5 => some [6, 23, 24] | 6 => some [6, 23, 24, 25] | 7 => some [6, 7, 23, 24] | 8 => some [6, 23, 24, 41] | 9 => some [4, 5] | 10 => some [6, 23, 24] | 11 => some [4, 5] | _ => none)
  | 41 => (match r with | 0 => some [0, 1] | 1 => some [0, 1, 16] | 2 => some [4, 5] | 3 => some [0, 1, 6] | 4 => some [0, 1, 6, 7, 8] | 5 => some [0, 1, 6, 7, 8, 26] | 6 => some [4, 5] | 7 => some [0, 1, 6, 7, 8, 27] | 8 => some [0, 1, 6, 7, 8] | 9 => some [0, 1, 6, 7, 8] | 10 => some [0, 1, 6, 7, 8, 58] | 11 => some [0, 1, 6, 7, 8] | 12 => some [0, 1, 6, 7, 8] | 13 => some [4, 5] | _ => none)
  | 42 => (match r with | 0 => some [0, 1] | 1 => some [0, 1, 10] | 2 => some [4] | 3 => some [0, 1, 5] | 4 => some [0, 1, 5, 14] | 5 => some [0, 1, 5] | 6 => some [0, 1, 5, 25] | 7 => some [4] | 8 => some [4] | _ => none)
  | 43 => (match r with | 0 => some [0] | 1 => some [0, 5, 6, 7] | 2 => some [0, 5, 6, 7, 8] | 3 => some [0, 3, 4, 5, 6, 7] | 4 => some [0, 5, 6, 7, 45] | 5 => some [2] | 6 => some [0, 5, 6, 7] | 7 => some [2] | _ => none)
  | 44 => (match r with | 0 => some [0] | 1 => some [5] | 2 => some [2] | 3 => some [2] | _ => none)
  | 45 => (match r with | 0 => some [0] | 1 => some [3] | 2 => some [3, 4] | 3 => some [2] | 4 => some [3, 6] | 5 => some [2] | 6 => some [8] | 7 => some [2] | 8 => some [2] | _ => none)
  | 46 => (match r with | 0 => some [0] | 1 => some [3] | 2 => some [3, 4] | 3 => some [2] | 4 => some [3, 6] | 5 => some [2] | 6 => some [8] | 7 => some [2] | 8 => some [2] | _ => none)
  | 47 => (match r with | 0 => some [0, 3] | 1 => some [4] | _ => none)
  | 48 => (match r with | 0 => some [0, 1] | 1 => some [0, 1, 6] | 2 => some [1, 6, 11, 12, 13] | 3 => some [1, 6, 11, 12, 13, 14] | 4 => some [1, 6, 8, 11, 12, 13] | 5 => some [1, 6, 8, 9, 10, 11, 12, 13] | 6 => some [1, 6, 8, 9, 11, 12, 13, 23] | 7 => some [4, 5] | 8 => some [1, 6, 11, 12, 13] | 9 => some [1, 6, 11, 12, 13] | 10 => some [6, 43] | 11 => some [4, 5] | 12 => some [4, 5] | _ => none)
  | 49 => (match r with | 0 => some [0, 1] | 1 => some [0, 1, 14] | 2 => some [4, 5] | 3 => some [0, 1, 6] | 4 => some [0, 1, 6, 7] | 5 => some [0, 1, 6, 7, 18] | 6 => some [0, 1, 6, 7] | 7 => some [0, 1, 6, 7, 8] | 8 => some [0, 1, 6, 7, 8, 62] | 9 => some [4, 5] | 10 => some [0, 1, 6, 7] | 11 => some [4, 5] | _ => none)
  | 50 => (match r with | 0 => some [0, 1] | 1 => some [0, 1, 5] | 2 => some [0, 1, 5, 6] | 3 => some [0, 1, 5, 6, 14] | 4 => some [0, 1, 5, 6] | 5 => some [0, 1, 5, 6, 23] | 6 => some [0, 1, 5, 6] | 7 => some [4] | _ => none)
  | 51 => (match r with | 0 => some [0, 3] | 1 => some [4] | _ => none)
  | 52 => (match r with | 0 => some [0, 1] | 1 => some [0, 1, 5] | 2 => some [0, 1, 5, 6] | 3 => some [0, 1, 5, 6, 14] | 4 => some [0, 1, 5, 6] | 5 => some [0, 1, 5, 6, 23] | 6 => some [0, 1, 5, 6] | 7 => some [4] | _ => none)
  | 53 => (match r with | 0 => some [0, 1, 2] | 1 => some [2, 7] | 2 => some [2, 7, 8] | 3 => some [7, 8, 15, 16, 17] | 4 => some [7, 8, 15, 16, 17, 18] | 5 => some [7, 8, 10, 15, 16, 17] | 6 => some [7, 8, 11, 15, 16, 17] | 7 => some [7, 8, 11, 15, 16, 17, 25] | 8 => some [7, 8, 15, 16, 17] | 9 => some [7, 8, 15, 16, 17] | 10 => some [6] | _ => none)
  | 54 => (match r with | 0 => some [0, 1, 2] | 1 => some [2, 7] | 2 => some [2, 7, 8] | 3 => some [2, 7, 8, 9] | 4 => some [2, 7, 8, 9, 17] | 5 => some [2, 7, 8, 9] | 6 => some [2, 7, 8, 9, 10] | 7 => some [2, 7, 8, 9, 10, 23] | 8 => some [2, 7, 8, 9, 10] | 9 => some [2, 7, 8, 9, 10, 35] | 10 => some [2, 7, 8, 9, 10] | 11 => some [6] | _ => none)
  | 55 => (match r with | 0 => some [0] | 1 => some [0] | _ => none)
  | 56 => (match r with | 0 => some [0, 2] | 1 => some [2] | _ => none)
  | 57 => (match r with | 0 => some [0, 1, 2] | 1 => some [0, 1, 2, 8] | 2 => some [0, 1, 2, 8, 9, 10] | 3 => some [0, 1, 2, 8, 9, 10, 17] | 4 => some [0, 1, 2, 8, 9, 10, 11] | 5 => some [0, 1, 2, 8, 9, 10, 11, 31] | 6 => some [0, 1, 2, 8, 9, 10] | 7 => some [0, 1, 2, 8, 9, 10] | 8 => some [6, 7] | _ => none)
  | 58 => (match r with | 0 => some [1, 2] | 1 => some [8] | 2 => some [4] | 3 => some [4] | _ => none)
  | 59 => (match r with | 0 => some [1, 2, 3] | 1 => some [1, 2, 3] | 2 => some [1, 2, 3, 26] | 3 => some [6] | 4 => some [1, 2, 3, 7] | 5 => some [1, 2, 3, 7, 35] | 6 => some [1, 2, 3, 7] | 7 => some [1, 2, 3, 7] | 8 => some [6] | _ => none)
  | 60 => (match r with | 0 => some [4, 5, 6, 7] | 1 => some [8] | _ => none)
  | 61 => (match r with | 0 => some [1, 2] | 1 => some [4] | _ => none)
  | 62 => (match r with | 0 => some [1, 2, 3, 4, 8] | 1 => some [8] | _ => none)
  | 63 => (match r with | 0 => some [0, 2, 3] | 1 => some [0, 2, 3, 9] | 2 => some [0, 2, 3] | 3 => some [0, 2, 3] | _ => none)
  | 64 => (match r with | 0 => some [0, 1] | 1 => some [0, 1, 9] | 2 => some [4] | 3 => some [0, 1, 5] | 4 => some [0, 1, 5, 26] | 5 => some [0, 1, 5] | 6 => some [0, 1, 5] | 7 => some [4] | _ => none)
  | 65 => (match r with | 0 => some [1, 2] | 1 => some [1, 2, 6] | 2 => some [1, 2, 13] | 3 => some [4] | 4 => some [4] | _ => none)
  | 66 => (match r with | 0 => some [1] | 1 => some [1, 4] | 2 => some [1, 21] | 3 => some [2] | 4 => some [24] | 5 => some [2] | 6 => some [2] | _ => none)
  | 67 => (match r with | 0 => some [0] | 1 => some [0] | _ => none)
  | 68 => (match r with | 0 => some [0, 2] | 1 => some [0, 2, 3] | 2 => some [0, 2, 3, 4] | 3 => some [0, 2, 3, 4, 9] | 4 => some [0, 2, 3, 4] | 5 => some [0, 2, 3, 4] | 6 => some [2] | _ => none)
  | 69 => (match r with | 0 => some [1, 2] | 1 => some [1, 2, 5] | 2 => some [1, 2, 5, 9] | 3 => some [4] | 4 => some [13] | 5 => some [4] | 6 => some [4] | _ => none)
  | 70 => (match r with | 0 => some [3, 4, 5, 6, 7, 8] | 1 => some [3, 4, 5, 6, 7, 8, 19] | 2 => some [6, 7, 8] | 3 => some [3, 4, 5, 6, 7, 8, 9] | 4 => some [3, 4, 5, 6, 7, 8, 9, 10] | 5 => some [6, 7, 8, 9, 10, 25] | 6 => some [9, 10, 11] | 7 => some [9, 10, 11, 12, 13] | 8 => some [9, 10, 11, 12, 33] | 9 => some [] | 10 => some [] | 11 => some [6, 9, 10, 49] | 12 => some [6, 7, 8] | 13 => some [6, 7, 8] | _ => none)
  | 71 => (match r with | 0 => some [1, 2, 4] | 1 => some [2, 4, 5] | 2 => some [2, 4, 5, 15] | 3 => some [4] | 4 => some [4] | _ => none)
  | 72 => (match r with | 0 => some [0, 1] | 1 => some [0, 1, 10] | 2 => some [4] | 3 => some [0, 1, 5] | 4 => some [0, 1, 5, 14] | 5 => some [0, 1, 5] | 6 => some [0, 1, 5, 25] | 7 => some [4] | 8 => some [4] | _ => none)
  | 73 => (match r with | 0 => some [0] | 1 => some [2] | _ => none)
  | 74 => (match r with | 0 => some [1, 3, 5] | 1 => some [3, 5, 7] | 2 => some [6] | _ => none)
  | 75 => (match r with | 0 => some [0, 1] | 1 => some [3] | _ => none)
  | 76 => (match r with | 0 => some [0, 1] | 1 => some [0, 5, 6, 7] | 2 => some [0, 5, 6, 7, 33] | 3 => some [] | 4 => some [4] | 5 => some [0] | 6 => some [] | 7 => some [4] | _ => none)
  | 77 => (match r with | 0 => some [0, 1, 2, 3] | 1 => some [0, 1, 3, 8] | 2 => some [0, 1, 3, 8, 22] | 3 => some [0, 1, 3, 8] | 4 => some [0, 1, 3, 8, 32] | 5 => some [0, 1, 3, 8, 38, 39, 40] | 6 => some [0, 1, 3, 8, 38, 39, 40, 41] | 7 => some [0, 1, 3, 8, 10, 38, 39, 40] | 8 => some [0, 1, 3, 8, 38, 39, 40] | 9 => some [0, 1, 3, 8, 38, 39, 40] | _ => none)
  | 78 => (match r with | 0 => some [0] | 1 => some [2] | _ => none)
  | 79 => (match r with | 0 => some [0] | 1 => some [0, 3] | 2 => some [0, 3, 9, 10, 11] | 3 => some [0, 3, 9, 10, 11, 12] | 4 => some [0, 3, 5, 9, 10, 11] | 5 => some [0, 3, 9, 10, 11] | 6 => some [0, 3, 9, 10, 11, 20] | 7 => some [0, 3, 9, 10, 11] | 8 => some [0, 3, 9, 10, 11] | 9 => some [0, 6] | 10 => some [6, 25, 26, 27] | 11 => some [6, 25, 26, 27, 28] | 12 => some [6, 8, 25, 26, 27] | 13 => some [6, 25, 26, 27] | 14 => some [6, 25, 26, 27] | 15 => some [2] | _ => none)
  | 80 => (match r with | 0 => some [0, 1, 4] | 1 => some [] | _ => none)
  | 81 => (match r with | 0 => some [2, 3] | 1 => some [2, 3, 5] | 2 => some [2, 3, 5, 12] | 3 => some [4] | 4 => some [4] | _ => none)
  | 82 => (match r with | 0 => some [0] | 1 => some [0, 3] | 2 => some [0, 3, 7] | 3 => some [0, 3] | 4 => some [0, 3, 65] | 5 => some [2] | 6 => some [2] | _ => none)
  | 83 => (match r with | 0 => some [2, 3] | 1 => some [4] | _ => none)
  | 84 => (match r with | 0 => some [0] | 1 => some [2] | _ => none)
  | 85 => (match r with | 0 => some [3, 4, 5] | 1 => some [3, 4, 5, 12] | 2 => some [6] | 3 => some [3, 4, 5, 7] | 4 => some [3, 4, 5, 7, 8] | 5 => some [3, 8, 9] | 6 => some [6] | _ => none)
  | 86 => (match r with | 0 => some [0, 1] | 1 => some [3] | _ => none)
  | 87 => (match r with | 0 => some [0, 1] | 1 => some [3] | _ => none)
  | 88 => (match r with | 0 => some [1] | 1 => some [1, 4] | 2 => some [2, 3] | 3 => some [1, 22] | 4 => some [2, 3] | 5 => some [27] | 6 => some [2, 3] | 7 => some [2, 3] | _ => none)
  | 89 => (match r with | 0 => some [0] | 1 => some [2] | _ => none)
  | 90 => (match r with | 0 => some [0] | 1 => some [0, 6] | 2 => some [2] | 3 => some [0, 3] | 4 => some [0, 3, 10] | 5 => some [0, 3] | 6 => some [0, 3, 33] | 7 => some [2] | 8 => some [0, 3, 77] | 9 => some [2] | 10 => some [2] | _ => none)
  | 91 => (match r with | 0 => some [1] | 1 => some [1, 3] | 2 => some [2] | 3 => some [8] | 4 => some [2] | 5 => some [2] | _ => none)
  | 92 => (match r with | 0 => some [0, 1] | 1 => some [3] | _ => none)
  | 93 => (match r with | 0 => some [0, 1] | 1 => some [3] | _ => none)
  | 94 => (match r with | 0 => some [0, 1] | 1 => some [4] | _ => none)
  | 95 => (match r with | 0 => some [0, 1] | 1 => some [4] | _ => none)
  | 96 => (match r with | 0 => some [0, 1] | 1 => some [0, 1, 7, 8] | 2 => some [0, 1, 7, 8, 9] | 3 => some [0, 1, 5, 7, 8] | 4 => some [0, 1, 5, 7, 8, 16] | 5 => some [4] | 6 => some [0, 1, 7, 8] | 7 => some [4] | _ => none)
  | 97 => (match r with | 0 => some [1, 2] | 1 => some [3] | _ => none)
  | 98 => (match r with | 0 => some [0, 2] | 1 => some [2, 3] | 2 => some [2] | _ => none)
  | 99 => (match r with | 0 => some [0] | 1 => some [0, 6] | 2 => some [2] | 3 => some [0, 3] | 4 => some [0, 3, 10] | 5 => some [0, 3] | 6 => some [0, 3, 20] | 7 => some [2] | 8 => some [2] | _ => none)
  | 100 => (match r with | 0 => some [0, 1, 2, 3, 4, 12] | 1 => some [0, 1, 3, 4, 16, 17, 18] | 2 => some [0, 1, 3, 4, 16, 17, 18, 19] | 3 => some [0, 1, 3, 4, 7, 16, 17, 18] | 4 => some [0, 1, 3, 4, 7, 8, 16, 17, 18] | 5 => some [0, 1, 3, 4, 16, 17, 18, 40] | 6 => some [0, 1, 3, 4, 16, 17, 18] | _ => none)
  | 101 => (match r with | 0 => some [0, 1, 4] | 1 => some [0, 1, 4, 9] | 2 => some [4, 5] | 3 => some [4, 6] | 4 => some [4, 5] | _ => none)
  | 102 => (match r with | 0 => some [1, 2] | 1 => some [1, 2, 9] | 2 => some [4] | 3 => some [1, 2, 11] | 4 => some [1, 2, 5, 6] | 5 => some [1, 2, 5, 32] | 6 => some [4] | 7 => some [1, 2] | 8 => some [1, 2] | 9 => some [4] | _ => none)
  | 103 => (match r with | 0 => some [1] | 1 => some [1, 16] | 2 => some [2] | 3 => some [1, 3] | 4 => some [1, 3, 21] | 5 => some [1, 3] | 6 => some [1, 3, 30] | 7 => some [2] | 8 => some [2] | _ => none)
  | 104 => (match r with | 0 => some [0, 1, 4] | 1 => some [0, 1, 4, 5] | 2 => some [0, 1, 4, 5, 9] | 3 => some [0, 1, 4, 5] | 4 => some [0, 1, 4, 5, 27] | 5 => some [4] | 6 => some [4] | _ => none)
  | 105 => (match r with | 0 => some [1, 2] | 1 => some [1, 5] | 2 => some [1, 5, 6] | 3 => some [1, 5, 6, 12] | 4 => some [1, 5, 6] | 5 => some [1, 5, 6, 21] | 6 => some [4] | 7 => some [4] | _ => none)
  | 106 => (match r with | 0 => some [0, 1] | 1 => some [4] | _ => none)
  | 107 => (match r with | 0 => some [0] | 1 => some [0, 9] | 2 => some [2, 3] | 3 => some [0, 10, 11, 12] | 4 => some [0, 10, 11, 12, 13] | 5 => some [0, 4, 5, 10, 11, 12] | 6 => some [0, 4, 6, 10, 11, 12] | 7 => some [0, 4, 6, 10, 11, 12, 23] | 8 => some [2, 3] | 9 => some [0, 10, 11, 12] | 10 => some [2, 3] | _ => none)
  | 108 => (match r with | 0 => some [0, 1] | 1 => some [4] | _ => none)
  | 109 => (match r with | 0 => some [0, 1] | 1 => some [3] | _ => none)
  | 110 => (match r with | 0 => some [0, 1] | 1 => some [4] | _ => none)
  | 111 => (match r with | 0 => some [1] | 1 => some [2] | _ => none)
  | 112 => (match r with | 0 => some [1] | 1 => some [17] | 2 => some [2] | 3 => some [2] | _ => none)
  | 113 => (match r with | 0 => some [1, 2, 3, 6] | 1 => some [1, 2, 3, 6, 20] | 2 => some [6, 7] | 3 => some [6, 7] | _ => none)
  | 114 => (match r with | 0 => some [0, 1] | 1 => some [3] | _ => none)
  | 115 => (match r with | 0 => some [0] | 1 => some [2] | _ => none)
  | 116 => (match r with | 0 => some [1] | 1 => some [2] | _ => none)
  | 117 => (match r with | 0 => some [1] | 1 => some [1, 4] | 2 => some [1, 4, 6] | 3 => some [2, 3] | 4 => some [1, 16] | 5 => some [2, 3] | 6 => some [2, 3] | _ => none)
  | 118 => (match r with | 0 => some [1, 2, 4] | 1 => some [2, 4, 6] | 2 => some [2, 5] | 3 => some [] | 4 => some [4] | _ => none)
  | 119 => (match r with | 0 => some [0, 1] | 1 => some [0, 1, 10] | 2 => some [4] | 3 => some [0, 1, 5] | 4 => some [5] | 5 => some [4] | _ => none)
  | 120 => (match r with | 0 => some [1, 2, 3, 4] | 1 => some [3, 4, 11] | 2 => some [3, 4, 6] | 3 => some [4, 6, 16] | 4 => some [20] | _ => none)
  | 121 => (match r with | 0 => some [1] | 1 => some [2] | _ => none)
  | 122 => (match r with | 0 => some [0, 1] | 1 => some [4] | _ => none)
  | 123 => (match r with | 0 => some [0, 1] | 1 => some [0, 1, 6] | 2 => some [0, 1] | 3 => some [0, 1] | 4 => some [0, 1, 16] | 5 => some [0] | 6 => some [4] | _ => none)
  | 124 => (match r with | 0 => some [0, 1, 2, 3, 4, 10] | 1 => some [0, 1, 2, 3, 4, 10, 11] | 2 => some [0, 1, 2, 3, 4, 10, 11, 12] | 3 => some [0, 1, 2, 3, 4, 10, 11, 12, 25] | 4 => some [] | 5 => some [0, 1, 2, 3, 4, 10, 11, 12, 32] | 6 => some [] | 7 => some [0, 1, 2, 3, 4, 10, 11, 12, 39] | 8 => some [0, 1, 2, 3, 4, 10, 11, 12] | 9 => some [0, 1, 2, 3, 4, 10, 11, 12] | 10 => some [0, 1, 2, 3, 4, 10, 11, 12, 13, 14] | 11 => some [0, 1, 2, 3, 4, 10, 11, 12, 13, 14, 56] | 12 => some [0, 1, 2, 3, 4, 10, 11, 12, 13] | 13 => some [0, 1, 2, 3, 4, 10, 11, 12, 13] | 14 => some [0, 1, 2, 3, 4, 10, 11, 12, 13, 14] | 15 => some [0, 1, 2, 3, 4, 10, 11, 12, 13, 75] | 16 => some [0, 1, 2, 3, 4, 10, 11, 12, 13, 80] | 17 => some [0, 1, 2, 3, 4, 10, 11, 12, 13, 97] | 18 => some [0, 2, 3, 4, 10, 11, 15] | 19 => some [0, 1, 2, 3, 4, 10, 11] | 20 => some [0, 1, 2, 3, 4, 12, 16, 17] | 21 => some [0, 1, 2, 3, 4, 11, 12, 16] | 22 => some [0, 1, 2, 3, 4, 11, 12, 16, 18, 19] | 23 => some [0, 1, 2, 3, 4, 11, 16, 18, 19, 20] | 24 => some [0, 1, 2, 3, 4, 11, 16, 18, 19, 20, 125] | 25 => some [0, 1, 2, 3, 4, 10, 11, 16] | 26 => some [0, 2, 3, 4, 10, 11, 16] | 27 => some [0, 1, 2, 3, 4, 10, 11] | 28 => some [0, 1, 2, 3, 4, 10, 11, 16] | 29 => some [0, 1, 3, 4, 10, 11, 16] | 30 => some [0, 1, 2, 3, 4, 10, 11] | _ => none)
  | 125 => (match r with | 0 => some [0] | 1 => some [2] | 2 => some [2] | _ => none)
  | 126 => (match r with | 0 => some [0, 1] | 1 => some [4] | _ => none)
  | 127 => (match r with | 0 => some [0, 1] | 1 => some [0, 1, 5] | 2 => some [0, 1, 5, 6] | 3 => some [0, 1, 6, 11] | 4 => some [12] | 5 => some [4] | 6 => some [4] | 7 => some [0, 1, 13] | 8 => some [4] | 9 => some [0, 1, 16] | 10 => some [4] | 11 => some [19] | 12 => some [4] | 13 => some [4] | _ => none)
  | 128 => (match r with | 0 => some [1, 2] | 1 => some [4] | 2 => some [3] | _ => none)
  | 129 => (match r with | 0 => some [0, 1, 2] | 1 => some [0, 1, 2, 8] | 2 => some [0, 1, 2, 8, 9, 10] | 3 => some [0, 1, 2, 8, 9, 10, 17] | 4 => some [0, 1, 2, 8, 9, 10, 11] | 5 => some [0, 1, 2, 8, 9, 10, 11, 31] | 6 => some [0, 1, 2, 8, 9, 10] | 7 => some [0, 1, 2, 8, 9, 10] | 8 => some [6, 7] | _ => none)
  | 130 => (match r with | 0 => some [2, 3] | 1 => some [9] | 2 => some [5] | 3 => some [5] | _ => none)
  | 131 => (match r with | 0 => some [0, 1, 2] | 1 => some [4] | _ => none)
  | 132 => (match r with | 0 => some [0] | 1 => some [0, 4] | 2 => some [2] | 3 => some [2] | _ => none)
  | 133 => (match r with | 0 => some [0] | 1 => some [0, 8] | 2 => some [2] | 3 => some [0, 9, 10, 11] | 4 => some [0, 9, 10, 11, 12] | 5 => some [0, 3, 4, 9, 10, 11] | 6 => some [0, 3, 4, 9, 10, 11, 27] | 7 => some [2] | 8 => some [0, 3, 4, 9, 10, 11, 29] | 9 => some [0, 4, 5, 9, 10, 11] | 10 => some [0, 9, 10, 11, 53] | 11 => some [2] | 12 => some [0, 9, 10, 11] | 13 => some [2] | _ => none)
  | 134 => (match r with | 0 => some [0, 1] | 1 => some [0, 1, 10] | 2 => some [4] | 3 => some [0, 1, 12, 13] | 4 => some [0, 1, 12, 13, 14] | 5 => some [0, 1, 5, 12, 13] | 6 => some [0, 1, 12, 13, 24] | 7 => some [4] | 8 => some [0, 1, 12, 13] | 9 => some [4] | _ => none)
  | 135 => (match r with | 0 => some [0, 1] | 1 => some [4] | _ => none)
  | 136 => (match r with | 0 => some [1] | 1 => some [2] | _ => none)
  | 137 => (match r with | 0 => some [0, 1] | 1 => some [4] | _ => none)
  | 138 => (match r with | 0 => some [0, 1, 4] | 1 => some [0, 1, 4, 5] | 2 => some [0, 4, 5, 25] | 3 => some [4] | 4 => some [4] | _ => none)
  | 139 => (match r with | 0 => some [0, 1] | 1 => some [4, 5] | _ => none)
  | 140 => (match r with | 0 => some [0] | 1 => some [0, 4] | 2 => some [2] | 3 => some [2] | _ => none)
  | 141 => (match r with | 0 => some [0] | 1 => some [4] | 2 => some [2] | _ => none)
  | 142 => (match r with | 0 => some [1] | 1 => some [2] | _ => none)
  | 143 => (match r with | 0 => some [1] | 1 => some [1, 5] | 2 => some [2] | 3 => some [2] | _ => none)
  | 144 => (match r with | 0 => some [2, 3] | 1 => some [2, 3, 5] | 2 => some [2, 3, 5, 34] | 3 => some [4] | 4 => some [2, 3, 5, 37] | 5 => some [4] | 6 => some [40] | 7 => some [4] | 8 => some [4] | _ => none)
  | 145 => (match r with | 0 => some [0, 1] | 1 => some [0, 1, 7, 8] | 2 => some [0, 1, 7, 8, 9] | 3 => some [0, 1, 5, 7, 8] | 4 => some [0, 1, 5, 7, 8, 16] | 5 => some [4] | 6 => some [0, 1, 7, 8] | 7 => some [4] | _ => none)
  | 146 => (match r with | 0 => some [0, 1] | 1 => some [0, 1, 7, 8] | 2 => some [0, 1, 7, 8, 9] | 3 => some [0, 1, 5, 7, 8] | 4 => some [0, 1, 5, 7, 8, 16] | 5 => some [4] | 6 => some [0, 1, 7, 8] | 7 => some [4] | _ => none)
  | 147 => (match r with | 0 => some [0, 1] | 1 => some [0, 1, 5] | 2 => some [1, 5, 8, 9, 10] | 3 => some [1, 5, 8, 9, 10, 11] | 4 => some [1, 5, 7, 8, 9, 10] | 5 => some [1, 7, 8, 9, 10, 37] | 6 => some [4] | 7 => some [1, 7, 8, 9, 10, 58] | 8 => some [4] | 9 => some [1, 5, 8, 9, 10] | 10 => some [1, 5, 8, 9, 10] | 11 => some [4] | _ => none)
  | 148 => (match r with | 0 => some [0] | 1 => some [2] | _ => none)
  | 149 => (match r with | 0 => some [1, 2, 3, 6] | 1 => some [1, 2, 3, 6] | 2 => some [1, 2, 3, 6, 14] | 3 => some [3, 6] | 4 => some [6] | 5 => some [1, 2, 3, 6, 7, 8] | 6 => some [1, 2, 3, 6, 7, 28] | 7 => some [1, 2, 3, 6, 7, 31] | 8 => some [3, 6] | 9 => some [6] | 10 => some [1, 2, 3, 6, 7, 9] | 11 => some [1, 2, 3, 6, 7, 9, 10] | 12 => some [1, 2, 3, 6, 7, 9, 10, 56] | 13 => some [1, 2, 3, 6, 7, 9, 10, 59] | 14 => some [6] | 15 => some [1, 2, 3, 6, 7, 9, 10] | 16 => some [3, 6, 7, 9] | 17 => some [3, 6, 7, 8] | 18 => some [3, 6, 7, 80] | 19 => some [3, 6] | 20 => some [6] | _ => none)
  | 150 => (match r with | 0 => some [1] | 1 => some [2] | _ => none)
  | 151 => (match r with | 0 => some [0, 1, 3] | 1 => some [0, 3, 11, 12, 13] | 2 => some [0, 3, 11, 12, 13, 14] | 3 => some [0, 3, 4, 5, 11, 12, 13] | 4 => some [0, 3, 11, 12, 13] | 5 => some [0, 3, 11, 12, 13] | 6 => some [0, 3, 6] | 7 => some [0, 3, 6, 24, 25] | 8 => some [0, 3, 6, 24, 25, 26] | 9 => some [0, 3, 6, 8, 24, 25] | 10 => some [0, 3, 6, 8, 24, 25, 44] | 11 => some [0, 3, 6, 24, 25] | 12 => some [0, 3, 6, 24, 25] | 13 => some [0, 3, 6, 53] | 14 => some [0, 3, 6, 54, 55] | 15 => some [0, 3, 6, 54, 55, 56] | 16 => some [0, 3, 6, 9, 10, 54, 55] | 17 => some [0, 3, 6, 9, 10, 54, 55, 70] | 18 => some [0, 3, 6, 54, 55] | 19 => some [0, 3, 6, 54, 55] | 20 => some [0, 3, 86] | _ => none)
  | 152 => (match r with | 0 => some [1] | 1 => some [2] | _ => none)
  | 153 => (match r with | 0 => some [0, 1, 2] | 1 => some [5] | _ => none)
  | 154 => (match r with | 0 => some [0, 1] | 1 => some [0, 1, 5] | 2 => some [1, 5, 8, 9] | 3 => some [1, 5, 8, 9, 10] | 4 => some [1, 5, 6, 7, 8, 9] | 5 => some [1, 5, 6, 8, 9, 17] | 6 => some [1, 5, 8, 9] | 7 => some [1, 5, 8, 9] | 8 => some [4] | _ => none)
  | 155 => (match r with | 0 => some [0] | 1 => some [2] | _ => none)
  | 156 => (match r with | 0 => some [0, 1, 3] | 1 => some [0, 1, 3, 8] | 2 => some [0, 1, 3] | 3 => some [0, 1, 3, 18] | _ => none)
  | 157 => (match r with | 0 => some [0, 1] | 1 => some [0, 1, 7, 8] | 2 => some [0, 1, 7, 8, 9] | 3 => some [0, 1, 5, 7, 8] | 4 => some [0, 1, 5, 7, 8, 16] | 5 => some [4] | 6 => some [0, 1, 7, 8] | 7 => some [4] | _ => none)
  | 158 => (match r with | 0 => some [0, 1, 2, 3, 8] | 1 => some [0, 1, 2, 3, 8, 14] | 2 => some [0, 1, 2, 3, 8] | 3 => some [0, 1, 2, 3, 8, 9] | 4 => some [0, 1, 2, 3, 8, 9, 34] | 5 => some [0, 1, 2, 3, 8, 9] | 6 => some [0, 1, 2, 3, 8, 9] | _ => none)
  | 159 => (match r with | 0 => some [0, 1, 2, 3, 8] | 1 => some [0, 1, 2, 3, 8, 9] | 2 => some [0, 3, 8, 9, 10] | 3 => some [0, 3, 8, 9, 10, 11] | 4 => some [0, 3, 8, 9, 10, 11, 21] | 5 => some [0, 3, 8, 9, 10, 11] | 6 => some [0, 3, 8, 9, 10, 11] | 7 => some [0, 3, 8, 9, 12] | 8 => some [0, 3, 8, 9, 12, 33] | 9 => some [0, 3, 8, 9, 12] | 10 => some [0, 3, 8, 9, 12] | 11 => some [0, 3, 8, 9, 12] | _ => none)
  | 160 => (match r with | 0 => some [0, 1, 8] | 1 => some [0, 1, 8, 17] | 2 => some [0, 1, 8, 9] | 3 => some [0, 1, 8, 9, 10] | 4 => some [0, 1, 8, 9, 10, 11] | 5 => some [0, 1, 8, 9, 10, 11, 35] | 6 => some [0, 1, 8, 9, 10, 11] | 7 => some [0, 1, 8, 9, 10, 11, 12] | 8 => some [0, 1, 8, 9, 10, 11, 12, 45] | 9 => some [0, 1, 8, 9, 10, 11, 12] | 10 => some [0, 1, 8, 9, 10, 11] | _ => none)
  | 161 => (match r with | 0 => some [0, 1, 2, 3] | 1 => some [0, 1, 3, 10] | 2 => some [0, 1, 3, 10, 11] | 3 => some [0, 1, 3, 10, 11, 12] | 4 => some [0, 1, 3, 10, 11, 12, 13] | 5 => some [0, 3, 10, 11, 12, 13, 14] | 6 => some [0, 3, 10, 11, 12, 13, 14, 34] | 7 => some [0, 3, 11, 12, 13, 14, 36] | 8 => some [0, 3, 11, 12, 13, 14] | 9 => some [0, 3, 11, 12, 13, 14] | 10 => some [0, 3, 11, 12, 13, 14] | 11 => some [11, 13] | 12 => some [13, 55] | 13 => some [8, 9] | 14 => some [13, 55, 57] | 15 => some [8, 9] | 16 => some [13, 60] | 17 => some [8, 9] | _ => none)
  | 162 => (match r with | 0 => some [0, 2, 8] | 1 => some [0, 8, 9] | 2 => some [0, 8, 9, 15] | 3 => some [0, 8, 9] | 4 => some [0, 8, 9] | 5 => some [0, 8, 9] | _ => none)
  | 163 => (match r with | 0 => some [0, 1, 2, 3] | 1 => some [0, 1, 2, 3, 9] | 2 => some [0, 1, 2, 3, 9, 10] | 3 => some [0, 1, 2, 3, 9, 10, 16] | 4 => some [0, 1, 2, 3, 9, 10] | 5 => some [0, 1, 2, 3, 9, 10, 36] | 6 => some [0, 1, 2, 3, 9, 10] | 7 => some [0, 1, 2, 3, 9, 10, 41] | 8 => some [8] | 9 => some [0, 1, 2, 3, 9, 10, 45] | 10 => some [8] | 11 => some [0, 1, 2, 3, 9, 10] | 12 => some [0, 1, 2, 3, 9, 10, 65] | 13 => some [0, 1, 2, 3, 9, 10, 11] | 14 => some [0, 1, 2, 3, 9, 10, 11, 69] | 15 => some [0, 1, 2, 3, 9, 10, 11] | 16 => some [0, 1, 2, 3, 9, 10, 11, 84] | 17 => some [0, 1, 2, 3, 9, 10, 11] | 18 => some [0, 1, 2, 3, 9, 10, 104] | 19 => some [0, 1, 2, 3, 9, 10, 12] | 20 => some [0, 1, 2, 3, 9, 10, 12, 109] | 21 => some [0, 1, 2, 3, 9, 10, 12] | 22 => some [0, 1, 2, 3, 9, 10, 12, 124] | 23 => some [0, 1, 2, 3, 9, 10, 12] | 24 => some [8] | _ => none)
  | 164 => (match r with | 0 => some [0, 1, 2, 3, 4] | 1 => some [0, 1, 2, 4] | 2 => some [0, 1, 4, 11, 12] | 3 => some [0, 1, 4, 11, 12, 47] | 4 => some [0, 1, 4, 11, 12] | 5 => some [0, 1, 4, 11, 12, 65] | 6 => some [0, 1, 4, 11, 12] | 7 => some [0, 1, 4, 11, 12, 70] | 8 => some [0, 1, 4, 11, 12] | 9 => some [0, 1, 4, 11, 12] | 10 => some [0, 1, 4, 11, 12] | 11 => some [10] | _ => none)
  | 165 => (match r with | 0 => some [0, 1, 2, 3, 4] | 1 => some [0, 1, 2, 4] | 2 => some [0, 1, 4, 12, 13] | 3 => some [0, 1, 4, 12, 13, 47] | 4 => some [0, 1, 4, 12, 13] | 5 => some [0, 1, 4, 12, 13, 66] | 6 => some [0, 1, 4, 12, 13] | 7 => some [0, 1, 4, 12, 13, 71] | 8 => some [13] | 9 => some [10, 11] | 10 => some [0, 1, 4, 12, 13] | 11 => some [0, 1, 4, 12, 13] | 12 => some [0, 1, 4, 12, 13] | 13 => some [0, 1, 4, 12, 13, 120] | 14 => some [0, 1, 4, 12, 13] | 15 => some [0, 1, 4, 12, 13, 139] | 16 => some [0, 1, 4, 12, 13] | 17 => some [0, 1, 4, 12, 13, 144] | 18 => some [0, 1, 4, 12, 13] | 19 => some [0, 1, 4, 12, 13] | 20 => some [0, 1, 4, 12, 13] | 21 => some [13] | 22 => some [10, 11] | _ => none)
  | 166 => (match r with | 0 => some [0, 2] | 1 => some [0, 2, 4] | 2 => some [0] | 3 => some [0, 2] | 4 => some [0, 2, 8] | 5 => some [0, 2] | 6 => some [0, 2] | 7 => some [2] | _ => none)
  | 167 => (match r with | 0 => some [0, 2] | 1 => some [0, 2, 4] | 2 => some [0] | 3 => some [0, 2] | 4 => some [0, 2, 8] | 5 => some [0, 2] | 6 => some [0, 2] | 7 => some [0, 2, 14] | 8 => some [0, 2] | 9 => some [0, 2] | 10 => some [2] | _ => none)
  | 168 => (match r with | 0 => some [0, 1] | 1 => some [4] | _ => none)
  | 169 => (match r with | 0 => some [0] | 1 => some [2] | _ => none)
  | 170 => (match r with | 0 => some [0, 1] | 1 => some [4] | _ => none)
  | 171 => (match r with | 0 => some [1] | 1 => some [1, 4] | 2 => some [1, 4, 5] | 3 => some [9] | 4 => some [2] | 5 => some [1, 10] | 6 => some [26] | 7 => some [2] | 8 => some [2] | _ => none)
  | 172 => (match r with | 0 => some [0] | 1 => some [0, 3] | 2 => some [0, 3, 4] | 3 => some [0, 3, 4, 9] | 4 => some [0, 3, 4, 5] | 5 => some [0, 3, 4, 5, 14] | 6 => some [2] | 7 => some [0, 3, 4] | 8 => some [0, 3, 4] | 9 => some [2] | _ => none)
  | 173 => (match r with | 0 => some [0, 1, 2] | 1 => some [0, 1, 2, 8] | 2 => some [0, 1, 2, 8, 9, 10] | 3 => some [0, 1, 2, 8, 9, 10, 17] | 4 => some [0, 1, 2, 8, 9, 10, 11] | 5 => some [0, 1, 2, 8, 9, 10, 11, 31] | 6 => some [0, 1, 2, 8, 9, 10] | 7 => some [0, 1, 2, 8, 9, 10] | 8 => some [6, 7] | _ => none)
  | 174 => (match r with | 0 => some [1, 2] | 1 => some [8] | 2 => some [4] | 3 => some [4] | _ => none)
  | 175 => (match r with | 0 => some [0, 1, 2] | 1 => some [0, 1, 2, 8] | 2 => some [0, 1, 2, 8, 9, 10] | 3 => some [0, 1, 2, 8, 9, 10, 17] | 4 => some [0, 1, 2, 8, 9, 10, 11] | 5 => some [0, 1, 2, 8, 9, 10, 11, 31] | 6 => some [0, 1, 2, 8, 9, 10] | 7 => some [0, 1, 2, 8, 9, 10] | 8 => some [6, 7] | _ => none)
  | 176 => (match r with | 0 => some [1, 2] | 1 => some [4] | _ => none)
  | 177 => (match r with | 0 => some [0] | 1 => some [0, 8] | 2 => some [2, 3] | 3 => some [0, 4] | 4 => some [0, 4, 12] | 5 => some [0, 4] | 6 => some [0, 4, 5] | 7 => some [0, 4, 5, 19] | 8 => some [2, 3] | 9 => some [2, 3] | _ => none)
  | 178 => (match r with | 0 => some [1, 2] | 1 => some [1, 2, 9] | 2 => some [4] | 3 => some [1, 2, 5] | 4 => some [1, 2, 5, 14] | 5 => some [1, 2, 5] | 6 => some [1, 2, 5, 46] | 7 => some [4] | 8 => some [4] | _ => none)
  | 179 => (match r with | 0 => some [1, 2] | 1 => some [2, 5] | 2 => some [2, 5, 6] | 3 => some [2, 5, 6, 15] | 4 => some [2, 5, 6] | 5 => some [2, 5, 6, 7] | 6 => some [2, 5, 6, 7, 27] | 7 => some [2, 5, 6, 7] | 8 => some [2, 5, 6, 7] | 9 => some [4] | _ => none)
  | 180 => (match r with | 0 => some [0, 1] | 1 => some [3] | _ => none)
  | 181 => (match r with | 0 => some [0, 1, 2] | 1 => some [4] | _ => none)
  | 182 => (match r with | 0 => some [1, 2] | 1 => some [1, 2] | 2 => some [2] | _ => none)
  | 183 => (match r with | 0 => some [0, 1, 2] | 1 => some [0, 1, 2] | 2 => some [0, 1, 2, 7] | 3 => some [0, 1, 2, 7, 16] | 4 => some [6] | 5 => some [0, 1, 2, 7, 8] | 6 => some [0, 1, 2, 7, 8, 22] | 7 => some [6] | 8 => some [0, 1, 2, 7, 8, 31] | 9 => some [0, 1, 2, 7, 9] | 10 => some [0, 1, 7, 9] | 11 => some [9] | 12 => some [6] | 13 => some [0, 1, 2, 7, 8] | 14 => some [0, 1, 2, 7, 8, 68] | 15 => some [0, 1, 2] | 16 => some [0] | 17 => some [6] | 18 => some [0, 1, 7] | 19 => some [0] | 20 => some [6] | _ => none)
  | 184 => (match r with | 0 => some [0, 1] | 1 => some [0, 1, 5] | 2 => some [0, 1, 5, 24] | 3 => some [0, 1, 5] | 4 => some [4] | _ => none)
  | 185 => (match r with | 0 => some [1, 2, 4] | 1 => some [1, 2, 4, 5] | 2 => some [2, 4, 5] | 3 => some [4, 5] | 4 => some [4] | _ => none)
  | 186 => (match r with | 0 => some [1, 2] | 1 => some [1, 2, 5] | 2 => some [2, 3] | 3 => some [1, 2, 17] | 4 => some [2, 3] | 5 => some [1, 2, 4] | 6 => some [2, 4] | 7 => some [2, 3] | _ => none)
  | 187 => (match r with | 0 => some [0, 1, 2] | 1 => some [0, 1, 2] | 2 => some [0, 1, 2, 16] | 3 => some [6] | 4 => some [0, 1, 2, 7] | 5 => some [0, 7] | 6 => some [0] | 7 => some [6] | _ => none)
  | 188 => (match r with | 0 => some [1, 3, 5, 6] | 1 => some [1, 3, 5, 6, 11] | 2 => some [6] | 3 => some [1, 3, 5, 6, 7] | 4 => some [5, 6, 7, 14] | 5 => some [5, 7, 8] | 6 => some [7, 8, 19] | 7 => some [] | 8 => some [6] | _ => none)
  | 189 => (match r with | 0 => some [] | 1 => some [2] | _ => none)
  | 190 => (match r with | 0 => some [0, 2, 3, 4, 10] | 1 => some [0, 2, 3, 4, 10, 11] | 2 => some [0, 2, 3, 4, 10, 11, 18] | 3 => some [0, 2, 3, 4, 10, 11, 40] | 4 => some [0, 2, 3, 4, 10, 11] | 5 => some [0, 2, 3, 4, 10, 11, 58] | 6 => some [0, 2, 3, 4, 11] | 7 => some [0, 2, 3, 4, 10] | _ => none)
  | 191 => (match r with | 0 => some [0] | 1 => some [2] | _ => none)
  | 192 => (match r with | 0 => some [0] | 1 => some [0] | 2 => some [0] | 3 => some [0] | 4 => some [2] | _ => none)
  | 193 => (match r with | 0 => some [0, 1, 2, 3] | 1 => some [8] | _ => none)
  | 194 => (match r with | 0 => some [0, 1, 2, 3, 4, 5] | 1 => some [0, 1, 2, 3, 4, 5] | 2 => some [0, 1, 2, 4, 5] | 3 => some [2] | 4 => some [12] | _ => none)
  | 196 => (match r with | 0 => some [0] | 1 => some [0, 3] | 2 => some [3, 7] | 3 => some [2] | 4 => some [2] | _ => none)
  | 197 => (match r with | 0 => some [0, 1] | 1 => some [0, 1, 17] | 2 => some [4] | 3 => some [0, 1, 5] | 4 => some [0, 1, 5] | 5 => some [4] | 6 => some [0, 1, 5, 23] | 7 => some [4] | 8 => some [0, 1, 5, 26] | 9 => some [0, 1, 6, 7, 8] | 10 => some [0, 1, 5, 35] | 11 => some [0, 1, 6, 7, 8] | 12 => some [0, 1, 5, 44] | 13 => some [0, 1, 6, 7, 8] | 14 => some [0, 1, 6, 7, 8, 9] | 15 => some [0, 1, 6, 7, 8, 9, 55] | 16 => some [0, 1, 6, 7, 8, 9] | 17 => some [0, 1, 6, 7, 8, 9, 73] | 18 => some [4] | 19 => some [0, 1, 6, 7, 8, 9] | 20 => some [6, 98] | 21 => some [4] | 22 => some [4] | _ => none)
  | 198 => (match r with | 0 => some [0, 1] | 1 => some [0, 1, 5] | 2 => some [0, 1, 5, 43] | 3 => some [4] | 4 => some [0, 1, 5, 6] | 5 => some [0, 1, 5, 6, 48] | 6 => some [0, 1, 5, 6] | 7 => some [0, 1, 5, 6, 65] | 8 => some [4] | 9 => some [0, 5, 7] | 10 => some [0, 5, 7, 70] | 11 => some [0, 5, 7] | 12 => some [0, 5, 7, 85] | 13 => some [4] | 14 => some [4] | _ => none)
  | 199 => (match r with | 0 => some [1, 2] | 1 => some [1, 2, 32] | 2 => some [4] | 3 => some [4] | _ => none)
  | 200 => (match r with | 0 => some [0] | 1 => some [0, 4] | 2 => some [2] | 3 => some [2] | _ => none)
  | 202 => (match r with | 0 => some [] | _ => none)
  | 203 => (match r with | 0 => some [3, 4, 5] | 1 => some [6] | _ => none)
  | 204 => (match r with | 0 => some [0, 1, 2, 3, 4] | 1 => some [1, 2, 3, 22] | 2 => some [1, 2] | 3 => some [10, 11] | 4 => some [10, 11] | _ => none)
  | 205 => (match r with | 0 => some [0, 1, 4] | 1 => some [0, 1, 4] | 2 => some [4] | 3 => some [4] | _ => none)
  | 206 => (match r with | 0 => some [] | _ => none)
  | 207 => (match r with | 0 => some [0, 1] | 1 => some [0] | 2 => some [] | _ => none)
  | 208 => (match r with | 0 => some [1, 2, 3, 4] | 1 => some [2, 3, 4, 5] | 2 => some [2, 3, 4, 5, 16] | 3 => some [2, 3, 4, 5, 30] | 4 => some [3, 4, 5, 32, 33, 34] | 5 => some [3, 4, 5, 32, 33, 34, 35] | 6 => some [3, 4, 5, 7, 32, 33, 34] | 7 => some [3, 4, 5, 32, 33, 34, 41] | 8 => some [4, 8] | 9 => some [46] | 10 => some [3, 4, 5, 32, 33, 34] | _ => none)
  | 209 => (match r with | 0 => some [0, 1] | 1 => some [0, 1, 4] | 2 => some [0] | 3 => some [] | _ => none)
  | 210 => (match r with | 0 => some [0, 1, 9] | 1 => some [0, 1, 9, 10, 11] | 2 => some [0, 1, 4, 5, 9] | 3 => some [0, 1, 4, 5, 9, 15] | 4 => some [0, 1, 4, 5, 7, 9] | 5 => some [0, 1, 4, 5, 9, 24] | 6 => some [0, 1, 4, 5, 9] | 7 => some [0, 1, 9] | _ => none)
  | 211 => (match r with | 0 => some [0, 2, 3] | 1 => some [0, 2, 3, 9] | 2 => some [0, 2, 3] | 3 => some [0, 2, 3] | _ => none)
  | 212 => (match r with | 0 => some [0] | 1 => some [0, 10] | 2 => some [2, 3] | 3 => some [2, 3] | _ => none)
  | 213 => (match r with | 0 => some [0] | 1 => some [0, 4] | 2 => some [0, 4, 16] | 3 => some [2, 3] | 4 => some [0, 4, 5] | 5 => some [0, 4, 5, 6] | 6 => some [0, 4, 5, 6, 23] | 7 => some [0, 7] | 8 => some [2, 3] | 9 => some [0, 4, 5, 6, 8] | 10 => some [0, 4, 5, 8, 9] | 11 => some [0, 5, 8, 9, 45] | 12 => some [2, 3] | 13 => some [0, 5, 8, 9, 10] | 14 => some [0, 5, 8, 10, 57] | 15 => some [2, 3] | 16 => some [0, 5, 8, 10, 59] | 17 => some [2, 3] | 18 => some [0, 5, 8, 10, 11] | 19 => some [0, 5, 8, 10, 11, 75] | 20 => some [2, 3] | 21 => some [0, 5, 10, 11, 77] | 22 => some [2, 3] | 23 => some [5, 10, 11, 12] | 24 => some [5, 10, 11, 12, 98] | 25 => some [2, 3] | 26 => some [2, 3] | _ => none)
  | _ => none
def hd : FuncId → Nat → Option (List Nat) := fun g r => match g with
  | 5 => (match r with | 6 => some [1, 2, 3, 4, 9, 10, 11] | 11 => some [1, 2, 3, 4, 9, 10, 11, 12, 14, 15] | _ => none)
  | 6 => (match r with | 12 => some [1, 2, 3, 4, 9, 11, 12, 13, 14, 15, 16] | _ => none)
  | 8 => (match r with | 8 => some [9, 11, 12, 13, 14, 15, 16, 17] | _ => none)
  | 9 => (match r with | 7 => some [1, 2, 3, 7, 9] | _ => none)
  | 11 => (match r with | 11 => some [0, 1, 2, 7, 11, 12, 13, 14] | 15 => some [0, 1, 2, 7, 11, 12, 13, 14, 15, 16] | 19 => some [0, 1, 2, 7, 11, 12, 13, 14, 15, 17] | _ => none)
  | 12 => (match r with | 4 => some [0, 1, 2, 3, 4, 11] | _ => none)
  | 13 => (match r with | 6 => some [0, 1, 5, 6, 7] | 15 => some [0, 1, 5, 6, 8, 9, 10] | _ => none)
  | 15 => (match r with | 2 => some [0, 1, 9, 10] | _ => none)
  | 16 => (match r with | 3 => some [0, 1, 5, 6] | _ => none)
  | 17 => (match r with | 5 => some [1, 3, 4] | 9 => some [1, 3, 5] | _ => none)
  | 18 => (match r with | 3 => some [8, 9, 15] | _ => none)
  | 20 => (match r with | 4 => some [0, 1, 5] | _ => none)
  | 21 => (match r with | 4 => some [8, 9, 17] | _ => none)
  | 22 => (match r with | 7 => some [2, 3, 4, 9, 10, 11, 12] | _ => none)
  | 24 => (match r with | 7 => some [2, 3, 4, 9, 11, 12, 13] | _ => none)
  | 25 => (match r with | 4 => some [0, 1, 5] | _ => none)
  | 26 => (match r with | 4 => some [9, 10, 11, 17] | _ => none)
  | 27 => (match r with | 6 => some [2, 3, 5, 9, 11, 12, 13] | _ => none)
  | 28 => (match r with | 5 => some [0, 5, 6] | _ => none)
  | 29 => (match r with | 2 => some [0, 1, 5] | _ => none)
  | 33 => (match r with | 4 => some [2, 3, 5] | _ => none)
  | 38 => (match r with | 4 => some [0, 3] | _ => none)
  | 40 => (match r with | 6 => some [6, 23, 24] | _ => none)
  | 41 => (match r with | 5 => some [0, 1, 6, 7, 8] | _ => none)
  | 42 => (match r with | 4 => some [0, 1, 5] | _ => none)
  | 43 => (match r with | 2 => some [0, 5, 6, 7] | _ => none)
  | 48 => (match r with | 3 => some [1, 6, 11, 12, 13] | _ => none)
  | 49 => (match r with | 5 => some [0, 1, 6, 7] | _ => none)
  | 50 => (match r with | 3 => some [0, 1, 5, 6] | _ => none)
  | 52 => (match r with | 3 => some [0, 1, 5, 6] | _ => none)
  | 53 => (match r with | 4 => some [7, 8, 15, 16, 17] | _ => none)
  | 54 => (match r with | 4 => some [2, 7, 8, 9] | 7 => some [2, 7, 8, 9, 10] | _ => none)
  | 57 => (match r with | 3 => some [0, 1, 2, 8, 9, 10] | _ => none)
  | 59 => (match r with | 5 => some [1, 2, 3, 7] | _ => none)
  | 63 => (match r with | 1 => some [0, 2, 3] | _ => none)
  | 64 => (match r with | 4 => some [0, 1, 5] | _ => none)
  | 68 => (match r with | 3 => some [0, 2, 3, 4] | _ => none)
  | 70 => (match r with | 7 => some [6, 7, 8, 9, 10, 25] | _ => none)
  | 72 => (match r with | 4 => some [0, 1, 5] | _ => none)
  | 77 => (match r with | 2 => some [0, 1, 3, 8] | 6 => some [0, 1, 3, 8, 38, 39, 40] | _ => none)
  | 79 => (match r with | 3 => some [0, 3, 9, 10, 11] | 11 => some [6, 25, 26, 27] | _ => none)
  | 82 => (match r with | 2 => some [0, 3] | _ => none)
  | 90 => (match r with | 4 => some [0, 3] | _ => none)
  | 96 => (match r with | 2 => some [0, 1, 7, 8] | _ => none)
  | 99 => (match r with | 4 => some [0, 3] | _ => none)
  | 100 => (match r with | 2 => some [0, 1, 3, 4, 16, 17, 18] | _ => none)
  | 102 => (match r with | 3 => some [1, 2] | _ => none)
  | 103 => (match r with | 4 => some [1, 3] | _ => none)
  | 104 => (match r with | 2 => some [0, 1, 4, 5] | _ => none)
  | 105 => (match r with | 3 => some [1, 5, 6] | _ => none)
  | 107 => (match r with | 4 => some [0, 10, 11, 12] | _ => none)
  | 118 => (match r with | 3 => some [2, 4, 6] | _ => none)
  | 120 => (match r with | 3 => some [3, 4, 11] | _ => none)
  | 124 => (match r with | 2 => some [0, 1, 2, 3, 4, 10, 11] | _ => none)
  | 129 => (match r with | 3 => some [0, 1, 2, 8, 9, 10] | _ => none)
  | 133 => (match r with | 4 => some [0, 9, 10, 11] | _ => none)
  | 134 => (match r with | 4 => some [0, 1, 12, 13] | _ => none)
  | 145 => (match r with | 2 => some [0, 1, 7, 8] | _ => none)
  | 146 => (match r with | 2 => some [0, 1, 7, 8] | _ => none)
  | 147 => (match r with | 3 => some [1, 5, 8, 9, 10] | _ => none)
  | 151 => (match r with | 2 => some [0, 3, 11, 12, 13] | 6 => some [0, 3] | 8 => some [0, 3, 6, 24, 25] | 15 => some [0, 3, 6, 54, 55] | _ => none)
  | 154 => (match r with | 3 => some [1, 5, 8, 9] | _ => none)
  | 156 => (match r with | 1 => some [0, 1, 3] | _ => none)
  | 157 => (match r with | 2 => some [0, 1, 7, 8] | _ => none)
  | 158 => (match r with | 1 => some [0, 1, 2, 3, 8] | 4 => some [0, 1, 2, 3, 8, 9] | _ => none)
  | 159 => (match r with | 4 => some [0, 3, 8, 9, 10, 11] | 8 => some [0, 3, 8, 9, 12] | _ => none)
  | 160 => (match r with | 5 => some [0, 1, 8, 9, 10, 11] | _ => none)
  | 162 => (match r with | 2 => some [0, 8, 9] | _ => none)
  | 163 => (match r with | 3 => some [0, 1, 2, 3, 9, 10] | 5 => some [0, 1, 2, 3, 9, 10] | 14 => some [0, 1, 2, 3, 9, 10, 11] | 20 => some [0, 1, 2, 3, 9, 10, 12] | _ => none)
  | 164 => (match r with | 3 => some [0, 1, 4, 11, 12] | 5 => some [0, 1, 4, 11, 12] | _ => none)
  | 165 => (match r with | 3 => some [0, 1, 4, 12, 13] | 5 => some [0, 1, 4, 12, 13] | 13 => some [0, 1, 4, 12, 13] | 15 => some [0, 1, 4, 12, 13] | _ => none)
  | 172 => (match r with | 3 => some [0, 3, 4] | _ => none)
  | 173 => (match r with | 3 => some [0, 1, 2, 8, 9, 10] | _ => none)
  | 175 => (match r with | 3 => some [0, 1, 2, 8, 9, 10] | _ => none)
  | 177 => (match r with | 4 => some [0, 4] | _ => none)
  | 178 => (match r with | 4 => some [1, 2, 5] | _ => none)
  | 179 => (match r with | 6 => some [2, 5, 6, 7] | _ => none)
  | 184 => (match r with | 2 => some [0, 1, 5] | _ => none)
  | 188 => (match r with | 6 => some [5, 6, 7, 14] | _ => none)
  | 190 => (match r with | 1 => some [0, 2, 3, 4, 10] | _ => none)
  | 197 => (match r with | 15 => some [0, 1, 6, 7, 8, 9] | _ => none)
  | 198 => (match r with | 5 => some [0, 1, 5, 6] | 10 => some [0, 5, 7] | _ => none)
  | 208 => (match r with | 5 => some [3, 4, 5, 32, 33, 34] | 9 => some [3, 4, 5, 32, 33, 34, 41] | _ => none)
  | 210 => (match r with | 1 => some [0, 1, 9] | _ => none)
  | 211 => (match r with | 1 => some [0, 2, 3] | _ => none)
  | _ => none
def ow : FuncId → Nat → Bool := fun g s => match g with
  | 6 => (match s with | 14 => true | _ => false)
  | 8 => (match s with | 119 => true | 137 => true | _ => false)
  | 13 => (match s with | 9 => true | _ => false)
  | 21 => (match s with | 9 => true | _ => false)
  | 22 => (match s with | 10 => true | _ => false)
  | 26 => (match s with | 11 => true | _ => false)
  | 27 => (match s with | 12 => true | _ => false)
  | 28 => (match s with | 5 => true | 13 => true | _ => false)
  | 41 => (match s with | 6 => true | _ => false)
  | 48 => (match s with | 6 => true | _ => false)
  | 49 => (match s with | 6 => true | _ => false)
  | 50 => (match s with | 5 => true | _ => false)
  | 52 => (match s with | 5 => true | _ => false)
  | 53 => (match s with | 8 => true | _ => false)
  | 54 => (match s with | 8 => true | _ => false)
  | 64 => (match s with | 5 => true | 11 => true | _ => false)
  | 70 => (match s with | 10 => true | _ => false)
  | 79 => (match s with | 6 => true | _ => false)
  | 118 => (match s with | 2 => true | _ => false)
  | 132 => (match s with | 2 => true | 5 => true | _ => false)
  | 140 => (match s with | 2 => true | 5 => true | _ => false)
  | 154 => (match s with | 5 => true | _ => false)
  | 179 => (match s with | 6 => true | _ => false)
  | 183 => (match s with | 0 => true | 6 => true | 9 => true | 34 => true | _ => false)
  | 187 => (match s with | 0 => true | 22 => true | _ => false)
  | 188 => (match s with | 7 => true | _ => false)
  | 200 => (match s with | 2 => true | 5 => true | _ => false)
  | _ => false
def br : FuncId → Nat → Bool := fun g s => match g with
  | 80 => (match s with | 0 => true | _ => false)
  | _ => false
def fz : FuncId → Bool := fun g => match g with
  | 60 => false
  | 74 => false
  | 79 => false
  | 116 => false
  | 121 => false
  | 123 => false
  | 203 => false
  | _ => true
def sp : FuncId → Bool := fun g => match g with
  | 132 => true
  | 140 => true
  | 200 => true
  | _ => false
def fx : FuncId → List (List Nat) := fun g => match g with
  | 3 => [[4]]
  | 4 => [[2, 3]]
  | 5 => [[2, 3]]
  | 6 => [[2, 3]]
  | 7 => [[2, 3]]
  | 8 => [[2, 3]]
  | 9 => [[2, 3]]
  | 10 => [[3], [3]]
  | 11 => [[3], [3]]
  | 12 => [[3], [], [3], [], [1]]
  | 13 => [[3]]
  | 15 => [[4]]
  | 16 => [[4]]
  | 17 => [[2, 3]]
  | 18 => [[2, 3]]
  | 19 => [[2, 3]]
  | 20 => [[4], [4]]
  | 21 => [[2, 3]]
  | 22 => [[2, 3]]
  | 23 => [[2, 3]]
  | 24 => [[2, 3]]
  | 25 => [[1], [1]]
  | 26 => [[2, 3]]
  | 27 => [[2, 3]]
  | 28 => [[2]]
  | 29 => [[1]]
  | 30 => [[2, 3]]
  | 32 => [[2, 3]]
  | 33 => [[0, 5, 3], [0, 5, 3]]
  | 34 => [[2, 3]]
  | 35 => [[2, 3]]
  | 36 => [[2, 3]]
  | 37 => [[2]]
  | 38 => [[3]]
  | 40 => [[3], [3]]
  | 41 => [[3], [3]]
  | 42 => [[3], [3]]
  | 43 => [[3]]
  | 44 => [[3]]
  | 47 => [[3]]
  | 48 => [[3]]
  | 49 => [[3]]
  | 50 => [[3]]
  | 51 => [[3]]
  | 52 => [[3]]
  | 53 => [[3], [], [1]]
  | 54 => [[3], [], [1]]
  | 57 => [[4]]
  | 59 => [[0, 5, 3]]
  | 60 => [[2, 3]]
  | 61 => [[2, 3]]
  | 62 => [[2, 3]]
  | 63 => [[4]]
  | 64 => [[2]]
  | 65 => [[2], [1]]
  | 66 => [[2, 3]]
  | 69 => [[2, 3], [1]]
  | 70 => [[0, 5, 3], [0, 5, 3], [0, 5, 3]]
  | 71 => [[2, 3]]
  | 72 => [[5], [5]]
  | 74 => [[2, 3]]
  | 77 => [[], [2]]
  | 79 => [[1]]
  | 80 => [[3]]
  | 82 => [[3]]
  | 85 => [[3]]
  | 88 => [[0, 5, 5]]
  | 90 => [[5]]
  | 91 => [[0, 5, 5]]
  | 96 => [[3]]
  | 99 => [[5]]
  | 101 => [[5]]
  | 102 => [[0, 5, 3]]
  | 103 => [[2, 3]]
  | 104 => [[5]]
  | 105 => [[0, 5, 3]]
  | 106 => [[2]]
  | 107 => [[2]]
  | 108 => [[1]]
  | 110 => [[3]]
  | 111 => [[0, 5, 3]]
  | 112 => [[0, 5, 3]]
  | 113 => [[0, 5, 3], [], [5]]
  | 115 => [[3]]
  | 116 => [[3]]
  | 117 => [[0, 5, 5, 5]]
  | 118 => [[1]]
  | 119 => [[2]]
  | 121 => [[1]]
  | 122 => [[1]]
  | 123 => [[3]]
  | 124 => [[3]]
  | 129 => [[3]]
  | 132 => [[3]]
  | 133 => [[5]]
  | 134 => [[5], [5]]
  | 138 => [[5]]
  | 139 => [[3]]
  | 140 => [[5]]
  | 141 => [[2]]
  | 142 => [[0, 5, 3]]
  | 143 => [[0, 5, 3]]
  | 144 => [[2], [1, 0]]
  | 145 => [[1]]
  | 146 => [[3]]
  | 147 => [[3]]
  | 149 => [[0, 5, 3], [], [5]]
  | 150 => [[0, 5, 3]]
  | 152 => [[0, 5, 3]]
  | 157 => [[1]]
  | 158 => [[3]]
  | 159 => [[3]]
  | 160 => [[3]]
  | 161 => [[3]]
  | 162 => [[3]]
  | 163 => [[3]]
  | 164 => [[3]]
  | 165 => [[3]]
  | 173 => [[5]]
  | 175 => [[3]]
  | 176 => [[0, 5, 3]]
  | 177 => [[2]]
  | 178 => [[0, 5, 3]]
  | 179 => [[0, 5, 3]]
  | 182 => [[0, 5, 3]]
  | 183 => [[3], [], [3]]
  | 185 => [[0, 5, 3]]
  | 186 => [[0, 5, 3]]
  | 187 => [[3]]
  | 188 => [[0, 5, 3]]
  | 190 => [[3]]
  | 193 => [[3]]
  | 194 => [[3]]
  | 198 => [[2]]
  | 199 => [[0, 5, 3]]
  | 200 => [[3]]
  | 201 => [[3], [3]]
  | 202 => [[3]]
  | 203 => [[0, 5, 3]]
  | 204 => [[3]]
  | 207 => [[3]]
  | 211 => [[3]]
  | _ => []
def wk : FuncId → List (List Nat) := fun g => match g with
  | 21 => [[4]]
  | 22 => [[4]]
  | 26 => [[1]]
  | 27 => [[1]]
  | 28 => [[1]]
  | 32 => [[0, 5, 3], [1]]
  | 34 => [[0, 5, 3], [1]]
  | 35 => [[1]]
  | 36 => [[0, 5, 3], [], [1]]
  | 40 => [[3]]
  | 41 => [[3]]
  | 47 => [[3]]
  | 48 => [[3]]
  | 49 => [[3]]
  | 50 => [[3]]
  | 51 => [[3]]
  | 52 => [[3]]
  | 53 => [[3]]
  | 54 => [[3]]
  | 55 => [[2, 3]]
  | 64 => [[1]]
  | 67 => [[2, 3]]
  | 68 => [[0, 5, 3]]
  | 70 => [[0, 5, 3], [1]]
  | 71 => [[0, 5, 3]]
  | 73 => [[1]]
  | 78 => [[5]]
  | 85 => [[3]]
  | 98 => [[0, 5, 3]]
  | 102 => [[5]]
  | 105 => [[5]]
  | 113 => [[0, 5, 3]]
  | 117 => [[5]]
  | 118 => [[1]]
  | 119 => [[1]]
  | 132 => [[3]]
  | 140 => [[5]]
  | 143 => [[2]]
  | 149 => [[0, 5, 3]]
  | 152 => [[2]]
  | 154 => [[1]]
  | 179 => [[2]]
  | 182 => [[0, 5, 3]]
  | 183 => [[3]]
  | 185 => [[0, 5, 3]]
  | 186 => [[0, 5, 3]]
  | 187 => [[3]]
  | 188 => [[2]]
  | 200 => [[3]]
  | _ => []
def sh : TypeId → Option (List Sk) := fun t => match t with
  | 3 => some [.int .i64]
  | 4 => some [.bool]
  | 5 => some [.int .u8]
  | 9 => some [.str]
  | 21 => some [.int .i32]
  | 22 => some [.slx 4]
  | 26 => some [.slx 2]
  | 27 => some [.slx 3]
  | 29 => some [.sl 2, .sl 3]
  | 30 => some [.int .i64]
  | 32 => some [.int .i64, .int .i64, .str]
  | 33 => some [.sl 2, .sl 3]
  | 40 => some [.slx 1]
  | 45 => some [.int .i64, .int .i64, .int .i64, .str]
  | 49 => some [.slx 5]
  | 51 => some [.str, .sl 5, .sl 3]
  | 52 => some [.slx 1]
  | 53 => some [.int .i64]
  | 58 => some [.sl 1, .int .i64]
  | 66 => some [.slx 3]
  | 67 => some [.int .i64]
  | 80 => some [.str, .int .i64, .int .i64]
  | 82 => some [.slx 3]
  | 84 => some [.str, .sl 5, .sl 5]
  | 112 => some [.sl 2, .sl 3, .str, .sl 5, .sl 3, .int .i64, .sl 1, .int .i64]
  | 132 => some [.int .u64]
  | 148 => some [.int .i64, .int .i64, .int .i64, .int .i64, .str]
  | 163 => some [.slx 1]
  | 179 => some [.slx 2]
  | 182 => some [.str, .sl 5]
  | 193 => some [.int .i64]
  | 200 => some [.int .u32]
  | 202 => some [.int .u64]
  | 220 => some [.int .u64]
  | 239 => some [.int .i64]
  | 247 => some [.int .u8, .int .u8]
  | _ => none
noncomputable def E0 (ext : FuncId → Option (List V → Hp → Option (List V × Hp))) (seq : FuncId → List V → Hp → Option (List (List V))) : Env := ⟨T, B, lv, hd, ow, br, fz, sp, fx, wk, ext, seq⟩
theorem env_ok {K : World → Prop} {ext : FuncId → Option (List V → Hp → Option (List V × Hp))} {seq : FuncId → List V → Hp → Option (List (List V))} (h : ∀ g f args H vals H', ext g = some f → f args H = some (vals, H') → Enter Tryd.prog g ∧ Sound Tryd.prog K g args H vals H') : EnvOk Tryd.prog K (E0 ext seq) := ⟨T_ok, B_ok, B_enter, h⟩
end Go.Proofs.YtbilmkcdhodenaaDoor
