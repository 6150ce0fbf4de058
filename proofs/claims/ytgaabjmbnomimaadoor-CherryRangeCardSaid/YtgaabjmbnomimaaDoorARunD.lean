/-
  Chapter 02 (span): how many runes a text has, as value.Runes tells; told to EV; The environment of this seat for EV, written by a program: its types, its functions, the slots that live on. Nothing here is trusted: 'env_ok' says that the types and functions are the program's; Chapter 02 (span): values, rows, pieces as cells; what the first functions compute, in plain Lean; Radix trees: nodes as cells; when they are right; what they have; what a path has. Plain Lean; Chapter 12 (graph): commits as cells; what each function of graph computes, in plain Lean; what is known of each as a callee; Chap.
-/
import Derived.Test.YtgaabjmbnomimaaDoorProg
import Derived.KernelRfl
import Derived.Laws.CopyRow
import Derived.Shelf.Spec.SlicesInsert
import Derived.Lib.AppendZerosOnto
import Derived.Tactics
import Derived.Tactics2
import Derived.WalkKit
import Derived.WalkSmall
import Derived.Laws.AppendOwn
import Derived.Lib.Overlaps
import Derived.Sort.Defs
import Derived.Lib.BitFns
import Derived.Test.YtgaabjmbnomimaaDoorEvE
import Derived.Test.YtgaabjmbnomimaaDoorEvK
set_option linter.all false
namespace Go.Ev
abbrev LLC := List (List C)
abbrev Bys := List UInt8
abbrev OBo := Option Bool
end Go.Ev
namespace Go.Proofs.YtgaabjmbnomimaaDoor
open Go Go.Ev
def runesN (s : ByteArray) : Nat -> Nat -> Option Nat
 | 0, _ => some 0
 | f + 1, pos => if pos < s.size then (if (Utf8.decode s pos).1 = 65533 /\ (Utf8.decode s pos).2 < 2 then none else (runesN s f (pos + (Utf8.decode s pos).2)).map (· + 1)) else some 0
theorem width_pos (s : ByteArray) (pos : Nat) : 1 <= (Utf8.decode s pos).2 := by
 simp only [Utf8.decode]
 repeat' split
 all_goals simp
theorem runesN_end (s : ByteArray) {f pos : Nat} (h : ¬ pos < s.size) : runesN s f pos = some 0 := by
 cases f with
 | zero => rfl
 | succ f => simp only [runesN, if_neg h]
theorem runesN_step {s : ByteArray} {f pos c wd : Nat} (hc : (Utf8.decode s pos).1 = c) (hw : (Utf8.decode s pos).2 = wd) (hp : pos < s.size) : runesN s (f + 1) pos = if c = 65533 /\ wd < 2 then none else (runesN s f (pos + wd)).map (· + 1) := by
 simp only [runesN, if_pos hp, hc, hw]
def runesI : Option Nat -> Int
 | some n => n
 | none => -1
def runesL (s : Bys) : Int := runesI (runesN ⟨s.toArray⟩ s.length 0)
def x148 : List V -> Hp -> Option (List V × Hp) := fun a h => match a, h with
 | [.c (.str s)], [] => if s.length < 4294967296 then some ([V.i (runesL s)], []) else none
 | _, _ => none
end Go.Proofs.YtgaabjmbnomimaaDoor
/-
 The environment of this seat for EV, written by a program: its types, its functions, the slots that live on. Nothing here is trusted: 'env_ok' says that the types and functions are the program's.
-/
namespace Go.Proofs.YtgaabjmbnomimaaDoor
open Go.Ev
def T : TypeId -> Option Ty := fun t => match t with
 | 1 => some ⟨.other, 1, 8, [], [.fnil], []⟩
 | 3 => some ⟨.int .i64, 1, 8, [.int], [.int .i64 0], []⟩
 | 4 => some ⟨.bool, 1, 1, [.bool], [.bool false], []⟩
 | 5 => some ⟨.int .u8, 1, 1, [.int], [.int .u8 0], []⟩
 | 9 => some ⟨.str, 1, 16, [.str], [.str []], []⟩
 | 20 => some ⟨.other, 1, 16, [], [.inil], []⟩
 | 21 => some ⟨.int .i32, 1, 4, [.int], [.int .i32 0], []⟩
 | 22 => some ⟨.slice 39, 1, 24, [], [.sl 2 (some true) true []], []⟩
 | 23 => some ⟨.slice 31, 1, 24, [], [.sl 3 (some true) true []], []⟩
 | 25 => some ⟨.struct [(0, 1, false), (1, 1, false)], 2, 48, [], [.sl 2 (some true) true [], .sl 3 (some true) true []], []⟩
 | 26 => some ⟨.struct [(0, 1, false), (1, 1, false)], 2, 48, [], [.sl 2 (some true) true [], .sl 3 (some true) true []], []⟩
 | 29 => some ⟨.slice 102, 1, 24, [], [.sl 5 (some true) true []], []⟩
 | 31 => some ⟨.struct [(0, 1, false), (1, 1, false), (2, 1, false)], 3, 64, [], [.str [], .sl 5 (some true) true [], .sl 3 (some true) true []], []⟩
 | 32 => some ⟨.slice 9, 1, 24, [], [.sl 1 (some true) true []], []⟩
 | 33 => some ⟨.int .i64, 1, 8, [.int], [.int .i64 0], []⟩
 | 37 => some ⟨.slice 3, 1, 24, [], [.sl 1 (some true) true []], []⟩
 | 39 => some ⟨.struct [(0, 1, false), (1, 1, false)], 2, 32, [], [.sl 1 (some true) true [], .int .i64 0], []⟩
 | 47 => some ⟨.other, 1, 8, [], [.fnil], []⟩
 | 55 => some ⟨.slice 65, 1, 24, [], [.sl 2 (some true) true []], []⟩
 | 65 => some ⟨.struct [(0, 1, false), (1, 1, false)], 2, 40, [], [.str [], .sl 5 (some true) true []], []⟩
 | 88 => some ⟨.other, 1, 8, [], [.fnil], []⟩
 | 90 => some ⟨.ptr 92, 1, 8, [], [.pnil], []⟩
 | 92 => some ⟨.struct [(0, 2, true), (2, 3, true), (5, 1, false), (6, 1, false), (7, 1, false)], 8, 152, [], [.sl 2 (some true) true [], .sl 3 (some true) true [], .str [], .sl 5 (some true) true [], .sl 3 (some true) true [], .int .i64 0, .sl 1 (some true) true [], .int .i64 0], []⟩
 | 93 => some ⟨.other, 1, 8, [], [.fnil], []⟩
 | 96 => some ⟨.array 501 3, 501, 4008, [], [], [.int .i64 0]⟩
 | 98 => some ⟨.int .i64, 1, 8, [.int], [.int .i64 0], []⟩
 | 100 => some ⟨.struct [(0, 1, false), (1, 1, false), (2, 1, false)], 3, 32, [.int, .int, .str], [.int .i64 0, .int .i64 0, .str []], []⟩
 | 102 => some ⟨.struct [(0, 1, false), (1, 1, false), (2, 3, true)], 5, 48, [.int, .int, .int, .int, .str], [.int .i64 0, .int .i64 0, .int .i64 0, .int .i64 0, .str []], []⟩
 | 104 => some ⟨.other, 1, 8, [], [.fnil], []⟩
 | 111 => some ⟨.other, 1, 8, [], [.fnil], []⟩
 | 116 => some ⟨.other, 1, 8, [], [.fnil], []⟩
 | 122 => some ⟨.other, 1, 8, [], [.fnil], []⟩
 | 124 => some ⟨.array 3 29, 3, 72, [], [], [.sl 5 (some true) true []]⟩
 | 126 => some ⟨.struct [(0, 1, false), (1, 3, true)], 4, 88, [], [.str [], .sl 5 (some true) true [], .sl 5 (some true) true [], .sl 5 (some true) true []], []⟩
 | 137 => some ⟨.other, 1, 8, [], [.fnil], []⟩
 | 140 => some ⟨.other, 1, 8, [], [.fnil], []⟩
 | 141 => some ⟨.other, 1, 8, [], [.fnil], []⟩
 | 144 => some ⟨.ptr 96, 1, 8, [], [.pnil], []⟩
 | 145 => some ⟨.other, 1, 8, [], [.fnil], []⟩
 | 154 => some ⟨.other, 1, 8, [], [.fnil], []⟩
 | 158 => some ⟨.int .u64, 1, 8, [.int], [.int .u64 0], []⟩
 | 162 => some ⟨.other, 1, 8, [], [.fnil], []⟩
 | 164 => some ⟨.other, 1, 8, [], [.fnil], []⟩
 | 165 => some ⟨.array 3 55, 3, 72, [], [], [.sl 2 (some true) true []]⟩
 | 177 => some ⟨.int .i64, 1, 8, [.int], [.int .i64 0], []⟩
 | 184 => some ⟨.int .u32, 1, 4, [.int], [.int .u32 0], []⟩
 | 186 => some ⟨.int .u64, 1, 8, [.int], [.int .u64 0], []⟩
 | 189 => some ⟨.other, 1, 8, [], [.fnil], []⟩
 | 190 => some ⟨.int .u64, 1, 8, [.int], [.int .u64 0], []⟩
 | 194 => some ⟨.ptr 3, 1, 8, [], [.pnil], []⟩
 | 199 => some ⟨.struct [(0, 1, false)], 1, 8, [.int], [.int .i64 0], []⟩
 | 203 => some ⟨.ptr 190, 1, 8, [], [.pnil], []⟩
 | 208 => some ⟨.array 256 5, 256, 256, [], [], [.int .u8 0]⟩
 | 210 => some ⟨.struct [(0, 1, false), (1, 1, false)], 2, 2, [.int, .int], [.int .u8 0, .int .u8 0], []⟩
 | 211 => some ⟨.array 16 210, 32, 32, [], [], [.int .u8 0, .int .u8 0]⟩
 | _ => none
theorem ty1 : tyOf Tryd.prog 1 = some ⟨.other, 1, 8, [], [.fnil], []⟩ := by kernel_rfl
theorem ty3 : tyOf Tryd.prog 3 = some ⟨.int .i64, 1, 8, [.int], [.int .i64 0], []⟩ := by kernel_rfl
theorem ty4 : tyOf Tryd.prog 4 = some ⟨.bool, 1, 1, [.bool], [.bool false], []⟩ := by kernel_rfl
theorem ty5 : tyOf Tryd.prog 5 = some ⟨.int .u8, 1, 1, [.int], [.int .u8 0], []⟩ := by kernel_rfl
theorem ty9 : tyOf Tryd.prog 9 = some ⟨.str, 1, 16, [.str], [.str []], []⟩ := by kernel_rfl
theorem ty20 : tyOf Tryd.prog 20 = some ⟨.other, 1, 16, [], [.inil], []⟩ := by kernel_rfl
theorem ty21 : tyOf Tryd.prog 21 = some ⟨.int .i32, 1, 4, [.int], [.int .i32 0], []⟩ := by kernel_rfl
theorem ty22 : tyOf Tryd.prog 22 = some ⟨.slice 39, 1, 24, [], [.sl 2 (some true) true []], []⟩ := by kernel_rfl
theorem ty23 : tyOf Tryd.prog 23 = some ⟨.slice 31, 1, 24, [], [.sl 3 (some true) true []], []⟩ := by kernel_rfl
theorem ty25 : tyOf Tryd.prog 25 = some ⟨.struct [(0, 1, false), (1, 1, false)], 2, 48, [], [.sl 2 (some true) true [], .sl 3 (some true) true []], []⟩ := by kernel_rfl
theorem ty26 : tyOf Tryd.prog 26 = some ⟨.struct [(0, 1, false), (1, 1, false)], 2, 48, [], [.sl 2 (some true) true [], .sl 3 (some true) true []], []⟩ := by kernel_rfl
theorem ty29 : tyOf Tryd.prog 29 = some ⟨.slice 102, 1, 24, [], [.sl 5 (some true) true []], []⟩ := by kernel_rfl
theorem ty31 : tyOf Tryd.prog 31 = some ⟨.struct [(0, 1, false), (1, 1, false), (2, 1, false)], 3, 64, [], [.str [], .sl 5 (some true) true [], .sl 3 (some true) true []], []⟩ := by kernel_rfl
theorem ty32 : tyOf Tryd.prog 32 = some ⟨.slice 9, 1, 24, [], [.sl 1 (some true) true []], []⟩ := by kernel_rfl
theorem ty33 : tyOf Tryd.prog 33 = some ⟨.int .i64, 1, 8, [.int], [.int .i64 0], []⟩ := by kernel_rfl
theorem ty37 : tyOf Tryd.prog 37 = some ⟨.slice 3, 1, 24, [], [.sl 1 (some true) true []], []⟩ := by kernel_rfl
theorem ty39 : tyOf Tryd.prog 39 = some ⟨.struct [(0, 1, false), (1, 1, false)], 2, 32, [], [.sl 1 (some true) true [], .int .i64 0], []⟩ := by kernel_rfl
theorem ty47 : tyOf Tryd.prog 47 = some ⟨.other, 1, 8, [], [.fnil], []⟩ := by kernel_rfl
theorem ty55 : tyOf Tryd.prog 55 = some ⟨.slice 65, 1, 24, [], [.sl 2 (some true) true []], []⟩ := by kernel_rfl
theorem ty65 : tyOf Tryd.prog 65 = some ⟨.struct [(0, 1, false), (1, 1, false)], 2, 40, [], [.str [], .sl 5 (some true) true []], []⟩ := by kernel_rfl
theorem ty88 : tyOf Tryd.prog 88 = some ⟨.other, 1, 8, [], [.fnil], []⟩ := by kernel_rfl
theorem ty90 : tyOf Tryd.prog 90 = some ⟨.ptr 92, 1, 8, [], [.pnil], []⟩ := by kernel_rfl
theorem ty92 : tyOf Tryd.prog 92 = some ⟨.struct [(0, 2, true), (2, 3, true), (5, 1, false), (6, 1, false), (7, 1, false)], 8, 152, [], [.sl 2 (some true) true [], .sl 3 (some true) true [], .str [], .sl 5 (some true) true [], .sl 3 (some true) true [], .int .i64 0, .sl 1 (some true) true [], .int .i64 0], []⟩ := by kernel_rfl
theorem ty93 : tyOf Tryd.prog 93 = some ⟨.other, 1, 8, [], [.fnil], []⟩ := by kernel_rfl
theorem ty96 : tyOf Tryd.prog 96 = some ⟨.array 501 3, 501, 4008, [], [], [.int .i64 0]⟩ := by kernel_rfl
theorem ty98 : tyOf Tryd.prog 98 = some ⟨.int .i64, 1, 8, [.int], [.int .i64 0], []⟩ := by kernel_rfl
theorem ty100 : tyOf Tryd.prog 100 = some ⟨.struct [(0, 1, false), (1, 1, false), (2, 1, false)], 3, 32, [.int, .int, .str], [.int .i64 0, .int .i64 0, .str []], []⟩ := by kernel_rfl
theorem ty102 : tyOf Tryd.prog 102 = some ⟨.struct [(0, 1, false), (1, 1, false), (2, 3, true)], 5, 48, [.int, .int, .int, .int, .str], [.int .i64 0, .int .i64 0, .int .i64 0, .int .i64 0, .str []], []⟩ := by kernel_rfl
theorem ty104 : tyOf Tryd.prog 104 = some ⟨.other, 1, 8, [], [.fnil], []⟩ := by kernel_rfl
theorem ty111 : tyOf Tryd.prog 111 = some ⟨.other, 1, 8, [], [.fnil], []⟩ := by kernel_rfl
theorem ty116 : tyOf Tryd.prog 116 = some ⟨.other, 1, 8, [], [.fnil], []⟩ := by kernel_rfl
theorem ty122 : tyOf Tryd.prog 122 = some ⟨.other, 1, 8, [], [.fnil], []⟩ := by kernel_rfl
theorem ty124 : tyOf Tryd.prog 124 = some ⟨.array 3 29, 3, 72, [], [], [.sl 5 (some true) true []]⟩ := by kernel_rfl
theorem ty126 : tyOf Tryd.prog 126 = some ⟨.struct [(0, 1, false), (1, 3, true)], 4, 88, [], [.str [], .sl 5 (some true) true [], .sl 5 (some true) true [], .sl 5 (some true) true []], []⟩ := by kernel_rfl
theorem ty137 : tyOf Tryd.prog 137 = some ⟨.other, 1, 8, [], [.fnil], []⟩ := by kernel_rfl
theorem ty140 : tyOf Tryd.prog 140 = some ⟨.other, 1, 8, [], [.fnil], []⟩ := by kernel_rfl
theorem ty141 : tyOf Tryd.prog 141 = some ⟨.other, 1, 8, [], [.fnil], []⟩ := by kernel_rfl
theorem ty144 : tyOf Tryd.prog 144 = some ⟨.ptr 96, 1, 8, [], [.pnil], []⟩ := by kernel_rfl
theorem ty145 : tyOf Tryd.prog 145 = some ⟨.other, 1, 8, [], [.fnil], []⟩ := by kernel_rfl
theorem ty154 : tyOf Tryd.prog 154 = some ⟨.other, 1, 8, [], [.fnil], []⟩ := by kernel_rfl
theorem ty158 : tyOf Tryd.prog 158 = some ⟨.int .u64, 1, 8, [.int], [.int .u64 0], []⟩ := by kernel_rfl
theorem ty162 : tyOf Tryd.prog 162 = some ⟨.other, 1, 8, [], [.fnil], []⟩ := by kernel_rfl
theorem ty164 : tyOf Tryd.prog 164 = some ⟨.other, 1, 8, [], [.fnil], []⟩ := by kernel_rfl
theorem ty165 : tyOf Tryd.prog 165 = some ⟨.array 3 55, 3, 72, [], [], [.sl 2 (some true) true []]⟩ := by kernel_rfl
theorem ty177 : tyOf Tryd.prog 177 = some ⟨.int .i64, 1, 8, [.int], [.int .i64 0], []⟩ := by kernel_rfl
theorem ty184 : tyOf Tryd.prog 184 = some ⟨.int .u32, 1, 4, [.int], [.int .u32 0], []⟩ := by kernel_rfl
theorem ty186 : tyOf Tryd.prog 186 = some ⟨.int .u64, 1, 8, [.int], [.int .u64 0], []⟩ := by kernel_rfl
theorem ty189 : tyOf Tryd.prog 189 = some ⟨.other, 1, 8, [], [.fnil], []⟩ := by kernel_rfl
theorem ty190 : tyOf Tryd.prog 190 = some ⟨.int .u64, 1, 8, [.int], [.int .u64 0], []⟩ := by kernel_rfl
theorem ty194 : tyOf Tryd.prog 194 = some ⟨.ptr 3, 1, 8, [], [.pnil], []⟩ := by kernel_rfl
theorem ty199 : tyOf Tryd.prog 199 = some ⟨.struct [(0, 1, false)], 1, 8, [.int], [.int .i64 0], []⟩ := by kernel_rfl
theorem ty203 : tyOf Tryd.prog 203 = some ⟨.ptr 190, 1, 8, [], [.pnil], []⟩ := by kernel_rfl
theorem ty208 : tyOf Tryd.prog 208 = some ⟨.array 256 5, 256, 256, [], [], [.int .u8 0]⟩ := by kernel_rfl
theorem ty210 : tyOf Tryd.prog 210 = some ⟨.struct [(0, 1, false), (1, 1, false)], 2, 2, [.int, .int], [.int .u8 0, .int .u8 0], []⟩ := by kernel_rfl
theorem ty211 : tyOf Tryd.prog 211 = some ⟨.array 16 210, 32, 32, [], [], [.int .u8 0, .int .u8 0]⟩ := by kernel_rfl
theorem T_ok (t : TypeId) (y : Ty) (h : T t = some y) : tyOf Tryd.prog t = some y := by
 unfold T at h
 split at h <;> simp only [Option.some.injEq, reduceCtorEq] at h <;> subst h
 · exact ty1
 · exact ty3
 · exact ty4
 · exact ty5
 · exact ty9
 · exact ty20
 · exact ty21
 · exact ty22
 · exact ty23
 · exact ty25
 · exact ty26
 · exact ty29
 · exact ty31
 · exact ty32
 · exact ty33
 · exact ty37
 · exact ty39
 · exact ty47
 · exact ty55
 · exact ty65
 · exact ty88
 · exact ty90
 · exact ty92
 · exact ty93
 · exact ty96
 · exact ty98
 · exact ty100
 · exact ty102
 · exact ty104
 · exact ty111
 · exact ty116
 · exact ty122
 · exact ty124
 · exact ty126
 · exact ty137
 · exact ty140
 · exact ty141
 · exact ty144
 · exact ty145
 · exact ty154
 · exact ty158
 · exact ty162
 · exact ty164
 · exact ty165
 · exact ty177
 · exact ty184
 · exact ty186
 · exact ty189
 · exact ty190
 · exact ty194
 · exact ty199
 · exact ty203
 · exact ty208
 · exact ty210
 · exact ty211
noncomputable def B0 : FuncId -> Option Func := fun g => match g with
 | 5 => some Tryd.f5
 | 13 => some Tryd.f13
 | 14 => some Tryd.f14
 | 15 => some Tryd.f15
 | 16 => some Tryd.f16
 | 17 => some Tryd.f17
 | 18 => some Tryd.f18
 | 19 => some Tryd.f19
 | 20 => some Tryd.f20
 | 21 => some Tryd.f21
 | 25 => some Tryd.f25
 | 26 => some Tryd.f26
 | 28 => some Tryd.f28
 | 34 => some Tryd.f34
 | 43 => some Tryd.f43
 | 48 => some Tryd.f48
 | 49 => some Tryd.f49
 | 50 => some Tryd.f50
 | 51 => some Tryd.f51
 | 52 => some Tryd.f52
 | 53 => some Tryd.f53
 | 54 => some Tryd.f54
 | 55 => some Tryd.f55
 | 56 => some Tryd.f56
 | 57 => some Tryd.f57
 | 58 => some Tryd.f58
 | 59 => some Tryd.f59
 | 60 => some Tryd.f60
 | 63 => some Tryd.f63
 | 64 => some Tryd.f64
 | 65 => some Tryd.f65
 | 66 => some Tryd.f66
 | 68 => some Tryd.f68
 | 69 => some Tryd.f69
 | 73 => some Tryd.f73
 | 81 => some Tryd.f81
 | 82 => some Tryd.f82
 | 93 => some Tryd.f93
 | 94 => some Tryd.f94
 | 95 => some Tryd.f95
 | 98 => some Tryd.f98
 | 102 => some Tryd.f102
 | 103 => some Tryd.f103
 | 104 => some Tryd.f104
 | 105 => some Tryd.f105
 | 106 => some Tryd.f106
 | 107 => some Tryd.f107
 | 108 => some Tryd.f108
 | 109 => some Tryd.f109
 | 110 => some Tryd.f110
 | 111 => some Tryd.f111
 | 112 => some Tryd.f112
 | 113 => some Tryd.f113
 | 114 => some Tryd.f114
 | 115 => some Tryd.f115
 | 116 => some Tryd.f116
 | 117 => some Tryd.f117
 | 118 => some Tryd.f118
 | 119 => some Tryd.f119
 | 120 => some Tryd.f120
 | 121 => some Tryd.f121
 | 122 => some Tryd.f122
 | 123 => some Tryd.f123
 | 124 => some Tryd.f124
 | 127 => some Tryd.f127
 | 128 => some Tryd.f128
 | 134 => some Tryd.f134
 | 136 => some Tryd.f136
 | 137 => some Tryd.f137
 | 138 => some Tryd.f138
 | _ => none
theorem B0_ok (g : FuncId) (fn : Func) (h : B0 g = some fn) : Tryd.prog.funcs[g]? = some fn := by
 unfold B0 at h
 split at h <;> simp only [Option.some.injEq, reduceCtorEq] at h <;> subst h
 · exact Tryd.func5
 · exact Tryd.func13
 · exact Tryd.func14
 · exact Tryd.func15
 · exact Tryd.func16
 · exact Tryd.func17
 · exact Tryd.func18
 · exact Tryd.func19
 · exact Tryd.func20
 · exact Tryd.func21
 · exact Tryd.func25
 · exact Tryd.func26
 · exact Tryd.func28
 · exact Tryd.func34
 · exact Tryd.func43
 · exact Tryd.func48
 · exact Tryd.func49
 · exact Tryd.func50
 · exact Tryd.func51
 · exact Tryd.func52
 · exact Tryd.func53
 · exact Tryd.func54
 · exact Tryd.func55
 · exact Tryd.func56
 · exact Tryd.func57
 · exact Tryd.func58
 · exact Tryd.func59
 · exact Tryd.func60
 · exact Tryd.func63
 · exact Tryd.func64
 · exact Tryd.func65
 · exact Tryd.func66
 · exact Tryd.func68
 · exact Tryd.func69
 · exact Tryd.func73
 · exact Tryd.func81
 · exact Tryd.func82
 · exact Tryd.func93
 · exact Tryd.func94
 · exact Tryd.func95
 · exact Tryd.func98
 · exact Tryd.func102
 · exact Tryd.func103
 · exact Tryd.func104
 · exact Tryd.func105
 · exact Tryd.func106
 · exact Tryd.func107
 · exact Tryd.func108
 · exact Tryd.func109
 · exact Tryd.func110
 · exact Tryd.func111
 · exact Tryd.func112
 · exact Tryd.func113
 · exact Tryd.func114
 · exact Tryd.func115
 · exact Tryd.func116
 · exact Tryd.func117
 · exact Tryd.func118
 · exact Tryd.func119
 · exact Tryd.func120
 · exact Tryd.func121
 · exact Tryd.func122
 · exact Tryd.func123
 · exact Tryd.func124
 · exact Tryd.func127
 · exact Tryd.func128
 · exact Tryd.func134
 · exact Tryd.func136
 · exact Tryd.func137
 · exact Tryd.func138
theorem B0_enter (g : FuncId) (fn : Func) (h : B0 g = some fn) (_ : fn.body.isSome = true) : (fn.name == "runtime.NumGoroutine") = false := by
 unfold B0 at h
 split at h <;> simp only [Option.some.injEq, reduceCtorEq] at h <;> subst h <;> kernel_rfl
noncomputable def B1 : FuncId -> Option Func := fun g => match g with
 | 141 => some Tryd.f141
 | 142 => some Tryd.f142
 | 143 => some Tryd.f143
 | 144 => some Tryd.f144
 | 145 => some Tryd.f145
 | 146 => some Tryd.f146
 | 147 => some Tryd.f147
 | 148 => some Tryd.f148
 | 149 => some Tryd.f149
 | 150 => some Tryd.f150
 | 151 => some Tryd.f151
 | 152 => some Tryd.f152
 | 153 => some Tryd.f153
 | 154 => some Tryd.f154
 | 155 => some Tryd.f155
 | 156 => some Tryd.f156
 | 157 => some Tryd.f157
 | 158 => some Tryd.f158
 | 159 => some Tryd.f159
 | 160 => some Tryd.f160
 | 161 => some Tryd.f161
 | 166 => some Tryd.f166
 | 167 => some Tryd.f167
 | 168 => some Tryd.f168
 | 169 => some Tryd.f169
 | 170 => some Tryd.f170
 | 171 => some Tryd.f171
 | 172 => some Tryd.f172
 | 173 => some Tryd.f173
 | 174 => some Tryd.f174
 | 175 => some Tryd.f175
 | 176 => some Tryd.f176
 | 179 => some Tryd.f179
 | 180 => some Tryd.f180
 | 181 => some Tryd.f181
 | 182 => some Tryd.f182
 | 183 => some Tryd.f183
 | 184 => some Tryd.f184
 | _ => none
theorem B1_ok (g : FuncId) (fn : Func) (h : B1 g = some fn) : Tryd.prog.funcs[g]? = some fn := by
 unfold B1 at h
 split at h <;> simp only [Option.some.injEq, reduceCtorEq] at h <;> subst h
 · exact Tryd.func141
 · exact Tryd.func142
 · exact Tryd.func143
 · exact Tryd.func144
 · exact Tryd.func145
 · exact Tryd.func146
 · exact Tryd.func147
 · exact Tryd.func148
 · exact Tryd.func149
 · exact Tryd.func150
 · exact Tryd.func151
 · exact Tryd.func152
 · exact Tryd.func153
 · exact Tryd.func154
 · exact Tryd.func155
 · exact Tryd.func156
 · exact Tryd.func157
 · exact Tryd.func158
 · exact Tryd.func159
 · exact Tryd.func160
 · exact Tryd.func161
 · exact Tryd.func166
 · exact Tryd.func167
 · exact Tryd.func168
 · exact Tryd.func169
 · exact Tryd.func170
 · exact Tryd.func171
 · exact Tryd.func172
 · exact Tryd.func173
 · exact Tryd.func174
 · exact Tryd.func175
 · exact Tryd.func176
 · exact Tryd.func179
 · exact Tryd.func180
 · exact Tryd.func181
 · exact Tryd.func182
 · exact Tryd.func183
 · exact Tryd.func184
theorem B1_enter (g : FuncId) (fn : Func) (h : B1 g = some fn) (_ : fn.body.isSome = true) : (fn.name == "runtime.NumGoroutine") = false := by
 unfold B1 at h
 split at h <;> simp only [Option.some.injEq, reduceCtorEq] at h <;> subst h <;> kernel_rfl
noncomputable def B : FuncId -> Option Func := fun g => if g < 139 then B0 g else B1 g
theorem B_ok (g : FuncId) (fn : Func) (h : B g = some fn) : Tryd.prog.funcs[g]? = some fn := by
 unfold B at h
 split at h
 · exact B0_ok g fn h
 exact B1_ok g fn h
theorem B_enter (g : FuncId) (fn : Func) (h : B g = some fn) (k : fn.body.isSome = true) : (fn.name == "runtime.NumGoroutine") = false := by
 unfold B at h
 split at h
 · exact B0_enter g fn h k
 exact B1_enter g fn h k
def lv : FuncId -> Nat -> Option (List Nat) := fun g r => match g with
 | 5 => (match r with | 0 => some [1, 2, 3] | 1 => some [1, 2, 3, 30] | 2 => some [6] | 3 => some [1, 2, 3, 7, 8] | 4 => some [1, 2, 3, 7, 51] | 5 => some [6] | 6 => some [1, 2, 3, 7, 9] | 7 => some [1, 2, 3, 7, 9, 55] | 8 => some [1, 2, 3, 7, 9] | 9 => some [1, 2, 3, 7, 9, 82] | 10 => some [6] | 11 => some [1, 2, 3, 7, 9, 10] | 12 => some [1, 2, 3, 7, 9, 129] | 13 => some [6] | 14 => some [1, 2, 3, 7, 132] | 15 => some [6] | 16 => some [1, 2, 3, 7, 11] | 17 => some [1, 2, 3, 7, 11, 145] | 18 => some [6] | 19 => some [2, 3, 7, 12, 13, 14, 15] | 20 => some [6] | _ => none)
 | 13 => (match r with | 0 => some [1] | 1 => some [1, 15] | 2 => some [2] | 3 => some [1, 3] | 4 => some [1, 3, 4] | 5 => some [1, 3, 4, 24] | 6 => some [1, 3, 4] | 7 => some [1, 3, 4] | 8 => some [1, 3, 5] | 9 => some [1, 3, 5, 38] | 10 => some [1, 3, 5] | 11 => some [1, 3, 5, 48] | 12 => some [2] | 13 => some [2] | _ => none)
 | 14 => (match r with | 0 => some [1, 2] | 1 => some [4] | _ => none)
 | 15 => (match r with | 0 => some [] | 1 => some [1, 2, 3] | 2 => some [1, 2, 3, 4, 5, 6] | 3 => some [1, 2, 3, 4, 5, 6, 7, 8] | 4 => some [0] | _ => none)
 | 16 => (match r with | 0 => some [1, 2, 3, 6] | 1 => some [1, 2, 3, 6, 9] | 2 => some [1, 2, 3, 6, 9, 16] | 3 => some [6, 7, 8] | 4 => some [6, 7, 8] | _ => none)
 | 17 => (match r with | 0 => some [2, 3] | 1 => some [2, 3, 27] | 2 => some [4] | 3 => some [2, 3, 5] | 4 => some [2, 3, 5, 32] | 5 => some [2, 3, 5] | 6 => some [2, 3, 5, 46] | 7 => some [4] | 8 => some [4] | _ => none)
 | 18 => (match r with | 0 => some [1, 2, 3, 6] | 1 => some [1, 2, 3, 6, 9] | 2 => some [1, 2, 3, 6, 9, 16] | 3 => some [6, 7, 8] | 4 => some [6, 7, 8] | _ => none)
 | 19 => (match r with | 0 => some [1, 2, 3] | 1 => some [1, 2, 3, 8] | 2 => some [1, 2, 3, 8, 15] | 3 => some [6, 7] | 4 => some [6, 7] | _ => none)
 | 20 => (match r with | 0 => some [1, 2, 3, 4, 8] | 1 => some [1, 2, 3, 4, 8, 12] | 2 => some [1, 2, 3, 4, 8, 12, 21] | 3 => some [8, 9, 10, 11] | 4 => some [1, 2, 4, 8, 13] | 5 => some [8, 13] | 6 => some [8, 9, 10, 11] | _ => none)
 | 21 => (match r with | 0 => some [0, 1, 2] | 1 => some [0, 1, 2, 13] | 2 => some [6] | 3 => some [0, 1, 2, 7] | 4 => some [1, 7] | 5 => some [6] | _ => none)
 | 25 => (match r with | 0 => some [1, 2, 3, 6] | 1 => some [1, 2, 3, 6, 20] | 2 => some [6, 7] | 3 => some [6, 7] | _ => none)
 | 26 => (match r with | 0 => some [0, 1] | 1 => some [0, 1, 10] | 2 => some [4] | 3 => some [0, 1, 5] | 4 => some [0, 1, 5, 14] | 5 => some [0, 1, 5] | 6 => some [0, 1, 5, 25] | 7 => some [4] | 8 => some [4] | _ => none)
 | 28 => (match r with | 0 => some [1] | 1 => some [17] | 2 => some [2] | 3 => some [2] | _ => none)
 | 34 => (match r with | 0 => some [1] | 1 => some [2] | _ => none)
 | 43 => (match r with | 0 => some [3, 4, 5, 6, 7, 8] | 1 => some [3, 4, 5, 6, 7, 8, 19] | 2 => some [6, 7, 8] | 3 => some [3, 4, 5, 6, 7, 8, 9] | 4 => some [3, 4, 5, 6, 7, 8, 9, 10] | 5 => some [6, 7, 8, 9, 10, 25] | 6 => some [9, 10, 11] | 7 => some [9, 10, 11, 12, 13] | 8 => some [9, 10, 11, 12, 33] | 9 => some [] | 10 => some [] | 11 => some [6, 9, 10, 49] | 12 => some [6, 7, 8] | 13 => some [6, 7, 8] | _ => none)
 | 48 => (match r with | 0 => some [1, 2, 3] | 1 => some [1, 2, 3] | 2 => some [1, 2, 3, 26] | 3 => some [6] | 4 => some [1, 2, 3, 7] | 5 => some [1, 2, 3, 7, 35] | 6 => some [1, 2, 3, 7] | 7 => some [1, 2, 3, 7] | 8 => some [6] | _ => none)
 | 49 => (match r with | 0 => some [1] | 1 => some [1, 4] | 2 => some [1, 21] | 3 => some [2] | 4 => some [24] | 5 => some [2] | 6 => some [2] | _ => none)
 | 50 => (match r with | 0 => some [0] | 1 => some [0] | _ => none)
 | 51 => (match r with | 0 => some [0, 2] | 1 => some [0, 2, 3] | 2 => some [0, 2, 3, 4] | 3 => some [0, 2, 3, 4, 9] | 4 => some [0, 2, 3, 4] | 5 => some [0, 2, 3, 4] | 6 => some [2] | _ => none)
 | 52 => (match r with | 0 => some [0, 1] | 1 => some [0, 1, 10] | 2 => some [4] | 3 => some [0, 1, 5] | 4 => some [0, 1, 5, 14] | 5 => some [0, 1, 5] | 6 => some [0, 1, 5, 25] | 7 => some [4] | 8 => some [4] | _ => none)
 | 53 => (match r with | 0 => some [1, 2] | 1 => some [1, 2, 5] | 2 => some [1, 2, 5, 9] | 3 => some [4] | 4 => some [13] | 5 => some [4] | 6 => some [4] | _ => none)
 | 54 => (match r with | 0 => some [1, 2, 4] | 1 => some [2, 4, 5] | 2 => some [2, 4, 5, 15] | 3 => some [4] | 4 => some [4] | _ => none)
 | 55 => (match r with | 0 => some [0] | 1 => some [2] | _ => none)
 | 56 => (match r with | 0 => some [1, 3, 5] | 1 => some [3, 5, 7] | 2 => some [6] | _ => none)
 | 57 => (match r with | 0 => some [0, 1] | 1 => some [3] | _ => none)
 | 58 => (match r with | 0 => some [0, 1] | 1 => some [0, 5, 6, 7] | 2 => some [0, 5, 6, 7, 33] | 3 => some [] | 4 => some [4] | 5 => some [0] | 6 => some [] | 7 => some [4] | _ => none)
 | 59 => (match r with | 0 => some [1, 2] | 1 => some [1, 2, 6] | 2 => some [1, 2, 13] | 3 => some [4] | 4 => some [4] | _ => none)
 | 60 => (match r with | 0 => some [0, 1, 2, 3] | 1 => some [0, 1, 3, 8] | 2 => some [0, 1, 3, 8, 22] | 3 => some [0, 1, 3, 8] | 4 => some [0, 1, 3, 8, 32] | 5 => some [0, 1, 3, 8, 38, 39, 40] | 6 => some [0, 1, 3, 8, 38, 39, 40, 41] | 7 => some [0, 1, 3, 8, 10, 38, 39, 40] | 8 => some [0, 1, 3, 8, 38, 39, 40] | 9 => some [0, 1, 3, 8, 38, 39, 40] | _ => none)
 | 63 => (match r with | 0 => some [0] | 1 => some [2] | _ => none)
 | 64 => (match r with | 0 => some [0] | 1 => some [0, 8] | 2 => some [2] | 3 => some [0, 9, 10, 11] | 4 => some [0, 9, 10, 11, 12] | 5 => some [0, 3, 4, 9, 10, 11] | 6 => some [0, 3, 4, 9, 10, 11, 27] | 7 => some [2] | 8 => some [0, 3, 4, 9, 10, 11, 29] | 9 => some [0, 4, 5, 9, 10, 11] | 10 => some [0, 9, 10, 11, 53] | 11 => some [2] | 12 => some [0, 9, 10, 11] | 13 => some [2] | _ => none)
 | 65 => (match r with | 0 => some [1, 2, 3, 6] | 1 => some [1, 2, 3, 6] | 2 => some [1, 2, 3, 6, 14] | 3 => some [3, 6] | 4 => some [6] | 5 => some [1, 2, 3, 6, 7, 8] | 6 => some [1, 2, 3, 6, 7, 28] | 7 => some [1, 2, 3, 6, 7, 31] | 8 => some [3, 6] | 9 => some [6] | 10 => some [1, 2, 3, 6, 7, 9] | 11 => some [1, 2, 3, 6, 7, 9, 10] | 12 => some [1, 2, 3, 6, 7, 9, 10, 56] | 13 => some [1, 2, 3, 6, 7, 9, 10, 59] | 14 => some [6] | 15 => some [1, 2, 3, 6, 7, 9, 10] | 16 => some [3, 6, 7, 9] | 17 => some [3, 6, 7, 8] | 18 => some [3, 6, 7, 80] | 19 => some [3, 6] | 20 => some [6] | _ => none)
 | 66 => (match r with | 0 => some [0, 1] | 1 => some [4, 5] | _ => none)
 | 68 => (match r with | 0 => some [0] | 1 => some [0, 4] | 2 => some [2] | 3 => some [2] | _ => none)
 | 69 => (match r with | 0 => some [0, 1] | 1 => some [0, 1, 5] | 2 => some [1, 5, 8, 9, 10] | 3 => some [1, 5, 8, 9, 10, 11] | 4 => some [1, 5, 7, 8, 9, 10] | 5 => some [1, 7, 8, 9, 10, 37] | 6 => some [4] | 7 => some [1, 7, 8, 9, 10, 58] | 8 => some [4] | 9 => some [1, 5, 8, 9, 10] | 10 => some [1, 5, 8, 9, 10] | 11 => some [4] | _ => none)
 | 73 => (match r with | 0 => some [0, 1, 4] | 1 => some [] | _ => none)
 | 81 => (match r with | 0 => some [1, 3, 5, 6] | 1 => some [1, 3, 5, 6, 11] | 2 => some [6] | 3 => some [1, 3, 5, 6, 7] | 4 => some [5, 6, 7, 14] | 5 => some [5, 7, 8] | 6 => some [7, 8, 19] | 7 => some [] | 8 => some [6] | _ => none)
 | 82 => (match r with | 0 => some [] | 1 => some [2] | _ => none)
 | 93 => (match r with | 0 => some [0] | 1 => some [2] | _ => none)
 | 94 => (match r with | 0 => some [1] | 1 => some [2] | _ => none)
 | 95 => (match r with | 0 => some [1] | 1 => some [1, 4] | 2 => some [1, 4, 6] | 3 => some [2, 3] | 4 => some [1, 16] | 5 => some [2, 3] | 6 => some [2, 3] | _ => none)
 | 98 => (match r with | 0 => some [0, 1] | 1 => some [0, 1, 10] | 2 => some [4] | 3 => some [0, 1, 12, 13] | 4 => some [0, 1, 12, 13, 14] | 5 => some [0, 1, 5, 12, 13] | 6 => some [0, 1, 12, 13, 24] | 7 => some [4] | 8 => some [0, 1, 12, 13] | 9 => some [4] | _ => none)
 | 102 => (match r with | 0 => some [0] | 1 => some [0, 6] | 2 => some [2] | 3 => some [0, 3] | 4 => some [0, 3, 10] | 5 => some [0, 3] | 6 => some [0, 3, 20] | 7 => some [2] | 8 => some [2] | _ => none)
 | 103 => (match r with | 0 => some [0] | 1 => some [0, 9] | 2 => some [2, 3] | 3 => some [0, 10, 11, 12] | 4 => some [0, 10, 11, 12, 13] | 5 => some [0, 4, 5, 10, 11, 12] | 6 => some [0, 4, 6, 10, 11, 12] | 7 => some [0, 4, 6, 10, 11, 12, 23] | 8 => some [2, 3] | 9 => some [0, 10, 11, 12] | 10 => some [2, 3] | _ => none)
 | 104 => (match r with | 0 => some [0, 1] | 1 => some [4] | _ => none)
 | 105 => (match r with | 0 => some [1] | 1 => some [2] | _ => none)
 | 106 => (match r with | 0 => some [0, 1] | 1 => some [4] | _ => none)
 | 107 => (match r with | 0 => some [0, 1] | 1 => some [3] | _ => none)
 | 108 => (match r with | 0 => some [1, 2, 4] | 1 => some [2, 4, 6] | 2 => some [2, 5] | 3 => some [] | 4 => some [4] | _ => none)
 | 109 => (match r with | 0 => some [0, 1] | 1 => some [0, 1, 10] | 2 => some [4] | 3 => some [0, 1, 5] | 4 => some [5] | 5 => some [4] | _ => none)
 | 110 => (match r with | 0 => some [1, 2, 3, 4] | 1 => some [3, 4, 11] | 2 => some [3, 4, 6] | 3 => some [4, 6, 16] | 4 => some [20] | _ => none)
 | 111 => (match r with | 0 => some [1] | 1 => some [2] | _ => none)
 | 112 => (match r with | 0 => some [0, 1] | 1 => some [0, 1, 11] | 2 => some [4] | 3 => some [0, 1, 5] | 4 => some [0, 5, 6] | 5 => some [0, 5, 6, 22] | 6 => some [0, 5, 6] | 7 => some [0, 5, 6] | 8 => some [4] | _ => none)
 | 113 => (match r with | 0 => some [0, 1] | 1 => some [4] | _ => none)
 | 114 => (match r with | 0 => some [0, 1] | 1 => some [3] | _ => none)
 | 115 => (match r with | 0 => some [0, 1] | 1 => some [4] | _ => none)
 | 116 => (match r with | 0 => some [1] | 1 => some [1, 4] | 2 => some [1, 4, 5] | 3 => some [9] | 4 => some [2] | 5 => some [1, 10] | 6 => some [26] | 7 => some [2] | 8 => some [2] | _ => none)
 | 117 => (match r with | 0 => some [1, 2] | 1 => some [1, 2] | 2 => some [2] | _ => none)
 | 118 => (match r with | 0 => some [0, 1, 2] | 1 => some [0, 1, 2] | 2 => some [0, 1, 2, 7] | 3 => some [0, 1, 2, 7, 16] | 4 => some [6] | 5 => some [0, 1, 2, 7, 8] | 6 => some [0, 1, 2, 7, 8, 22] | 7 => some [6] | 8 => some [0, 1, 2, 7, 8, 31] | 9 => some [0, 1, 2, 7, 9] | 10 => some [0, 1, 7, 9] | 11 => some [9] | 12 => some [6] | 13 => some [0, 1, 2, 7, 8] | 14 => some [0, 1, 2, 7, 8, 68] | 15 => some [0, 1, 2] | 16 => some [0] | 17 => some [6] | 18 => some [0, 1, 7] | 19 => some [0] | 20 => some [6] | _ => none)
 | 119 => (match r with | 0 => some [0, 1] | 1 => some [0, 1, 5] | 2 => some [0, 1, 5, 24] | 3 => some [0, 1, 5] | 4 => some [4] | _ => none)
 | 120 => (match r with | 0 => some [1, 2, 4] | 1 => some [1, 2, 4, 5] | 2 => some [2, 4, 5] | 3 => some [4, 5] | 4 => some [4] | _ => none)
 | 121 => (match r with | 0 => some [1, 2] | 1 => some [1, 2, 5] | 2 => some [2, 3] | 3 => some [1, 2, 17] | 4 => some [2, 3] | 5 => some [1, 2, 4] | 6 => some [2, 4] | 7 => some [2, 3] | _ => none)
 | 122 => (match r with | 0 => some [0, 1, 2] | 1 => some [0, 1, 2] | 2 => some [0, 1, 2, 16] | 3 => some [6] | 4 => some [0, 1, 2, 7] | 5 => some [0, 7] | 6 => some [0] | 7 => some [6] | _ => none)
 | 123 => (match r with | 0 => some [0, 1, 2] | 1 => some [0, 1, 2, 8] | 2 => some [0, 1, 2, 8, 9, 10] | 3 => some [0, 1, 2, 8, 9, 10, 17] | 4 => some [0, 1, 2, 8, 9, 10, 11] | 5 => some [0, 1, 2, 8, 9, 10, 11, 31] | 6 => some [0, 1, 2, 8, 9, 10] | 7 => some [0, 1, 2, 8, 9, 10] | 8 => some [6, 7] | _ => none)
 | 124 => (match r with | 0 => some [1, 2] | 1 => some [4] | _ => none)
 | 127 => (match r with | 0 => some [0, 1, 2, 3, 4, 10] | 1 => some [0, 1, 2, 3, 4, 10, 11] | 2 => some [0, 1, 2, 3, 4, 10, 11, 12] | 3 => some [0, 1, 2, 3, 4, 10, 11, 12, 25] | 4 => some [] | 5 => some [0, 1, 2, 3, 4, 10, 11, 12, 32] | 6 => some [] | 7 => some [0, 1, 2, 3, 4, 10, 11, 12, 39] | 8 => some [0, 1, 2, 3, 4, 10, 11, 12] | 9 => some [0, 1, 2, 3, 4, 10, 11, 12] | 10 => some [0, 1, 2, 3, 4, 10, 11, 12, 13, 14] | 11 => some [0, 1, 2, 3, 4, 10, 11, 12, 13, 14, 56] | 12 => some [0, 1, 2, 3, 4, 10, 11, 12, 13] | 13 => some [0, 1, 2, 3, 4, 10, 11, 12, 13] | 14 => some [0, 1, 2, 3, 4, 10, 11, 12, 13, 14] | 15 => some [0, 1, 2, 3, 4, 10, 11, 12, 13, 75] | 16 => some [0, 1, 2, 3, 4, 10, 11, 12, 13, 80] | 17 => some [0, 1, 2, 3, 4, 10, 11, 12, 13, 97] | 18 => some [0, 2, 3, 4, 10, 11, 15] | 19 => some [0, 1, 2, 3, 4, 10, 11] | 20 => some [0, 1, 2, 3, 4, 12, 16, 17] | 21 => some [0, 1, 2, 3, 4, 11, 12, 16] | 22 => some [0, 1, 2, 3, 4, 11, 12, 16, 18, 19] | 23 => some [0, 1, 2, 3, 4, 11, 16, 18, 19, 20] | 24 => some [0, 1, 2, 3, 4, 11, 16, 18, 19, 20, 125] | 25 => some [0, 1, 2, 3, 4, 10, 11, 16] | 26 => some [0, 2, 3, 4, 10, 11, 16] | 27 => some [0, 1, 2, 3, 4, 10, 11] | 28 => some [0, 1, 2, 3, 4, 10, 11, 16] | 29 => some [0, 1, 3, 4, 10, 11, 16] | 30 => some [0, 1, 2, 3, 4, 10, 11] | _ => none)
 | 128 => (match r with | 0 => some [0] | 1 => some [2] | 2 => some [2] | _ => none)
 | 134 => (match r with | 0 => some [3, 4, 5] | 1 => some [6] | _ => none)
 | 136 => (match r with | 0 => some [1] | 1 => some [2] | _ => none)
 | 137 => (match r with | 0 => some [0, 1, 3] | 1 => some [0, 3, 11, 12, 13] | 2 => some [0, 3, 11, 12, 13, 14] | 3 => some [0, 3, 4, 5, 11, 12, 13] | 4 => some [0, 3, 11, 12, 13] | 5 => some [0, 3, 11, 12, 13] | 6 => some [0, 3, 6] | 7 => some [0, 3, 6, 24, 25] | 8 => some [0, 3, 6, 24, 25, 26] | 9 => some [0, 3, 6, 8, 24, 25] | 10 => some [0, 3, 6, 8, 24, 25, 44] | 11 => some [0, 3, 6, 24, 25] | 12 => some [0, 3, 6, 24, 25] | 13 => some [0, 3, 6, 53] | 14 => some [0, 3, 6, 54, 55] | 15 => some [0, 3, 6, 54, 55, 56] | 16 => some [0, 3, 6, 9, 10, 54, 55] | 17 => some [0, 3, 6, 9, 10, 54, 55, 70] | 18 => some [0, 3, 6, 54, 55] | 19 => some [0, 3, 6, 54, 55] | 20 => some [0, 3, 86] | _ => none)
 | 138 => (match r with | 0 => some [0, 1, 2] | 1 => some [5] | _ => none)
 | 141 => (match r with | 0 => some [2, 3] | 1 => some [2, 3, 5] | 2 => some [2, 3, 5, 34] | 3 => some [4] | 4 => some [2, 3, 5, 37] | 5 => some [4] | 6 => some [40] | 7 => some [4] | 8 => some [4] | _ => none)
 | 142 => (match r with | 0 => some [0, 1] | 1 => some [0, 1, 7, 8] | 2 => some [0, 1, 7, 8, 9] | 3 => some [0, 1, 5, 7, 8] | 4 => some [0, 1, 5, 7, 8, 16] | 5 => some [4] | 6 => some [0, 1, 7, 8] | 7 => some [4] | _ => none)
 | 143 => (match r with | 0 => some [0, 1] | 1 => some [0, 1, 7, 8] | 2 => some [0, 1, 7, 8, 9] | 3 => some [0, 1, 5, 7, 8] | 4 => some [0, 1, 5, 7, 8, 16] | 5 => some [4] | 6 => some [0, 1, 7, 8] | 7 => some [4] | _ => none)
 | 144 => (match r with | 0 => some [0, 1] | 1 => some [0, 1, 5] | 2 => some [1, 5, 8, 9] | 3 => some [1, 5, 8, 9, 10] | 4 => some [1, 5, 6, 7, 8, 9] | 5 => some [1, 5, 6, 8, 9, 17] | 6 => some [1, 5, 8, 9] | 7 => some [1, 5, 8, 9] | 8 => some [4] | _ => none)
 | 145 => (match r with | 0 => some [0] | 1 => some [2] | _ => none)
 | 146 => (match r with | 0 => some [0, 1, 3] | 1 => some [0, 1, 3, 8] | 2 => some [0, 1, 3] | 3 => some [0, 1, 3, 18] | _ => none)
 | 147 => (match r with | 0 => some [0, 1] | 1 => some [0, 1, 7, 8] | 2 => some [0, 1, 7, 8, 9] | 3 => some [0, 1, 5, 7, 8] | 4 => some [0, 1, 5, 7, 8, 16] | 5 => some [4] | 6 => some [0, 1, 7, 8] | 7 => some [4] | _ => none)
 | 148 => (match r with | 0 => some [0] | 1 => some [0, 3] | 2 => some [3, 7] | 3 => some [2] | 4 => some [2] | _ => none)
 | 149 => (match r with | 0 => some [0] | 1 => some [0, 4] | 2 => some [2] | 3 => some [2] | _ => none)
 | 151 => (match r with | 0 => some [] | _ => none)
 | 152 => (match r with | 0 => some [0, 1, 2, 3, 8] | 1 => some [0, 1, 2, 3, 8, 14] | 2 => some [0, 1, 2, 3, 8] | 3 => some [0, 1, 2, 3, 8, 9] | 4 => some [0, 1, 2, 3, 8, 9, 34] | 5 => some [0, 1, 2, 3, 8, 9] | 6 => some [0, 1, 2, 3, 8, 9] | _ => none)
 | 153 => (match r with | 0 => some [0, 1, 2, 3, 8] | 1 => some [0, 1, 2, 3, 8, 9] | 2 => some [0, 3, 8, 9, 10] | 3 => some [0, 3, 8, 9, 10, 11] | 4 => some [0, 3, 8, 9, 10, 11, 21] | 5 => some [0, 3, 8, 9, 10, 11] | 6 => some [0, 3, 8, 9, 10, 11] | 7 => some [0, 3, 8, 9, 12] | 8 => some [0, 3, 8, 9, 12, 33] | 9 => some [0, 3, 8, 9, 12] | 10 => some [0, 3, 8, 9, 12] | 11 => some [0, 3, 8, 9, 12] | _ => none)
 | 154 => (match r with | 0 => some [0, 1, 8] | 1 => some [0, 1, 8, 17] | 2 => some [0, 1, 8, 9] | 3 => some [0, 1, 8, 9, 10] | 4 => some [0, 1, 8, 9, 10, 11] | 5 => some [0, 1, 8, 9, 10, 11, 35] | 6 => some [0, 1, 8, 9, 10, 11] | 7 => some [0, 1, 8, 9, 10, 11, 12] | 8 => some [0, 1, 8, 9, 10, 11, 12, 45] | 9 => some [0, 1, 8, 9, 10, 11, 12] | 10 => some [0, 1, 8, 9, 10, 11] | _ => none)
 | 155 => (match r with | 0 => some [0, 1, 2, 3] | 1 => some [0, 1, 3, 10] | 2 => some [0, 1, 3, 10, 11] | 3 => some [0, 1, 3, 10, 11, 12] | 4 => some [0, 1, 3, 10, 11, 12, 13] | 5 => some [0, 3, 10, 11, 12, 13, 14] | 6 => some [0, 3, 10, 11, 12, 13, 14, 34] | 7 => some [0, 3, 11, 12, 13, 14, 36] | 8 => some [0, 3, 11, 12, 13, 14] | 9 => some [0, 3, 11, 12, 13, 14] | 10 => some [0, 3, 11, 12, 13, 14] | 11 => some [11, 13] | 12 => some [13, 55] | 13 => some [8, 9] | 14 => some [13, 55, 57] | 15 => some [8, 9] | 16 => some [13, 60] | 17 => some [8, 9] | _ => none)
 | 156 => (match r with | 0 => some [0, 2, 8] | 1 => some [0, 8, 9] | 2 => some [0, 8, 9, 15] | 3 => some [0, 8, 9] | 4 => some [0, 8, 9] | 5 => some [0, 8, 9] | _ => none)
 | 157 => (match r with | 0 => some [0, 1, 2, 3] | 1 => some [0, 1, 2, 3, 9] | 2 => some [0, 1, 2, 3, 9, 10] | 3 => some [0, 1, 2, 3, 9, 10, 16] | 4 => some [0, 1, 2, 3, 9, 10] | 5 => some [0, 1, 2, 3, 9, 10, 36] | 6 => some [0, 1, 2, 3, 9, 10] | 7 => some [0, 1, 2, 3, 9, 10, 41] | 8 => some [8] | 9 => some [0, 1, 2, 3, 9, 10, 45] | 10 => some [8] | 11 => some [0, 1, 2, 3, 9, 10] | 12 => some [0, 1, 2, 3, 9, 10, 65] | 13 => some [0, 1, 2, 3, 9, 10, 11] | 14 => some [0, 1, 2, 3, 9, 10, 11, 69] | 15 => some [0, 1, 2, 3, 9, 10, 11] | 16 => some [0, 1, 2, 3, 9, 10, 11, 84] | 17 => some [0, 1, 2, 3, 9, 10, 11] | 18 => some [0, 1, 2, 3, 9, 10, 104] | 19 => some [0, 1, 2, 3, 9, 10, 12] | 20 => some [0, 1, 2, 3, 9, 10, 12, 109] | 21 => some [0, 1, 2, 3, 9, 10, 12] | 22 => some [0, 1, 2, 3, 9, 10, 12, 124] | 23 => some [0, 1, 2, 3, 9, 10, 12] | 24 => some [8] | _ => none)
 | 158 => (match r with | 0 => some [0, 1, 2, 3, 4] | 1 => some [0, 1, 2, 4] | 2 => some [0, 1, 4, 11, 12] | 3 => some [0, 1, 4, 11, 12, 47] | 4 => some [0, 1, 4, 11, 12] | 5 => some [0, 1, 4, 11, 12, 65] | 6 => some [0, 1, 4, 11, 12] | 7 => some [0, 1, 4, 11, 12, 70] | 8 => some [0, 1, 4, 11, 12] | 9 => some [0, 1, 4, 11, 12] | 10 => some [0, 1, 4, 11, 12] | 11 => some [10] | _ => none)
 | 159 => (match r with | 0 => some [0, 1, 2, 3, 4] | 1 => some [0, 1, 2, 4] | 2 => some [0, 1, 4, 12, 13] | 3 => some [0, 1, 4, 12, 13, 47] | 4 => some [0, 1, 4, 12, 13] | 5 => some [0, 1, 4, 12, 13, 66] | 6 => some [0, 1, 4, 12, 13] | 7 => some [0, 1, 4, 12, 13, 71] | 8 => some [13] | 9 => some [10, 11] | 10 => some [0, 1, 4, 12, 13] | 11 => some [0, 1, 4, 12, 13] | 12 => some [0, 1, 4, 12, 13] | 13 => some [0, 1, 4, 12, 13, 120] | 14 => some [0, 1, 4, 12, 13] | 15 => some [0, 1, 4, 12, 13, 139] | 16 => some [0, 1, 4, 12, 13] | 17 => some [0, 1, 4, 12, 13, 144] | 18 => some [0, 1, 4, 12, 13] | 19 => some [0, 1, 4, 12, 13] | 20 => some [0, 1, 4, 12, 13] | 21 => some [13] | 22 => some [10, 11] | _ => none)
 | 160 => (match r with | 0 => some [0, 2] | 1 => some [0, 2, 4] | 2 => some [0] | 3 => some [0, 2] | 4 => some [0, 2, 8] | 5 => some [0, 2] | 6 => some [0, 2] | 7 => some [2] | _ => none)
 | 161 => (match r with | 0 => some [0, 2] | 1 => some [0, 2, 4] | 2 => some [0] | 3 => some [0, 2] | 4 => some [0, 2, 8] | 5 => some [0, 2] | 6 => some [0, 2] | 7 => some [0, 2, 14] | 8 => some [0, 2] | 9 => some [0, 2] | 10 => some [2] | _ => none)
 | 166 => (match r with | 0 => some [1, 2, 3, 4] | 1 => some [2, 3, 4, 5] | 2 => some [2, 3, 4, 5, 16] | 3 => some [2, 3, 4, 5, 30] | 4 => some [3, 4, 5, 32, 33, 34] | 5 => some [3, 4, 5, 32, 33, 34, 35] | 6 => some [3, 4, 5, 7, 32, 33, 34] | 7 => some [3, 4, 5, 32, 33, 34, 41] | 8 => some [4, 8] | 9 => some [46] | 10 => some [3, 4, 5, 32, 33, 34] | _ => none)
 | 167 => (match r with | 0 => some [0, 1] | 1 => some [3] | _ => none)
 | 168 => (match r with | 0 => some [0, 1, 2] | 1 => some [4] | _ => none)
 | 169 => (match r with | 0 => some [0, 1, 4] | 1 => some [0, 1, 4] | 2 => some [4] | 3 => some [4] | _ => none)
 | 170 => (match r with | 0 => some [] | _ => none)
 | 171 => (match r with | 0 => some [0, 1] | 1 => some [0] | 2 => some [] | _ => none)
 | 172 => (match r with | 0 => some [0, 2, 3, 4, 10] | 1 => some [0, 2, 3, 4, 10, 11] | 2 => some [0, 2, 3, 4, 10, 11, 18] | 3 => some [0, 2, 3, 4, 10, 11, 40] | 4 => some [0, 2, 3, 4, 10, 11] | 5 => some [0, 2, 3, 4, 10, 11, 58] | 6 => some [0, 2, 3, 4, 11] | 7 => some [0, 2, 3, 4, 10] | _ => none)
 | 173 => (match r with | 0 => some [0] | 1 => some [2] | _ => none)
 | 174 => (match r with | 0 => some [0] | 1 => some [0] | 2 => some [0] | 3 => some [0] | 4 => some [2] | _ => none)
 | 175 => (match r with | 0 => some [0, 1, 2, 3] | 1 => some [8] | _ => none)
 | 176 => (match r with | 0 => some [0, 1, 2, 3, 4, 5] | 1 => some [0, 1, 2, 3, 4, 5] | 2 => some [0, 1, 2, 4, 5] | 3 => some [2] | 4 => some [12] | _ => none)
 | 179 => (match r with | 0 => some [0, 1] | 1 => some [0, 1, 4] | 2 => some [0] | 3 => some [] | _ => none)
 | 180 => (match r with | 0 => some [0, 1, 9] | 1 => some [0, 1, 9, 10, 11] | 2 => some [0, 1, 4, 5, 9] | 3 => some [0, 1, 4, 5, 9, 15] | 4 => some [0, 1, 4, 5, 7, 9] | 5 => some [0, 1, 4, 5, 9, 24] | 6 => some [0, 1, 4, 5, 9] | 7 => some [0, 1, 9] | _ => none)
 | 181 => (match r with | 0 => some [0, 2, 3] | 1 => some [0, 2, 3, 9] | 2 => some [0, 2, 3] | 3 => some [0, 2, 3] | _ => none)
 | 182 => (match r with | 0 => some [0, 1, 2, 3, 4] | 1 => some [1, 2, 3, 22] | 2 => some [1, 2] | 3 => some [10, 11] | 4 => some [10, 11] | _ => none)
 | 183 => (match r with | 0 => some [0] | 1 => some [0, 10] | 2 => some [2, 3] | 3 => some [2, 3] | _ => none)
 | 184 => (match r with | 0 => some [0] | 1 => some [0, 4] | 2 => some [0, 4, 16] | 3 => some [2, 3] | 4 => some [0, 4, 5] | 5 => some [0, 4, 5, 6] | 6 => some [0, 4, 5, 6, 23] | 7 => some [0, 7] | 8 => some [2, 3] | 9 => some [0, 4, 5, 6, 8] | 10 => some [0, 4, 5, 8, 9] | 11 => some [0, 5, 8, 9, 45] | 12 => some [2, 3] | 13 => some [0, 5, 8, 9, 10] | 14 => some [0, 5, 8, 10, 57] | 15 => some [2, 3] | 16 => some [0, 5, 8, 10, 59] | 17 => some [2, 3] | 18 => some [0, 5, 8, 10, 11] | 19 => some [0, 5, 8, 10, 11, 75] | 20 => some [2, 3] | 21 => some [0, 5, 10, 11, 77] | 22 => some [2, 3] | 23 => some [5, 10, 11, 12] | 24 => some [5, 10, 11, 12, 98] | 25 => some [2, 3] | 26 => some [2, 3] | _ => none)
 | _ => none
def hd : FuncId -> Nat -> Option (List Nat) := fun g r => match g with
 | 5 => (match r with | 7 => some [1, 2, 3, 7, 9] | _ => none)
 | 13 => (match r with | 5 => some [1, 3, 4] | 9 => some [1, 3, 5] | _ => none)
 | 17 => (match r with | 4 => some [2, 3, 5] | _ => none)
 | 26 => (match r with | 4 => some [0, 1, 5] | _ => none)
 | 43 => (match r with | 7 => some [6, 7, 8, 9, 10, 25] | _ => none)
 | 48 => (match r with | 5 => some [1, 2, 3, 7] | _ => none)
 | 51 => (match r with | 3 => some [0, 2, 3, 4] | _ => none)
 | 52 => (match r with | 4 => some [0, 1, 5] | _ => none)
 | 60 => (match r with | 2 => some [0, 1, 3, 8] | 6 => some [0, 1, 3, 8, 38, 39, 40] | _ => none)
 | 64 => (match r with | 4 => some [0, 9, 10, 11] | _ => none)
 | 69 => (match r with | 3 => some [1, 5, 8, 9, 10] | _ => none)
 | 81 => (match r with | 6 => some [5, 6, 7, 14] | _ => none)
 | 98 => (match r with | 4 => some [0, 1, 12, 13] | _ => none)
 | 102 => (match r with | 4 => some [0, 3] | _ => none)
 | 103 => (match r with | 4 => some [0, 10, 11, 12] | _ => none)
 | 108 => (match r with | 3 => some [2, 4, 6] | _ => none)
 | 110 => (match r with | 3 => some [3, 4, 11] | _ => none)
 | 112 => (match r with | 5 => some [0, 5, 6] | _ => none)
 | 119 => (match r with | 2 => some [0, 1, 5] | _ => none)
 | 123 => (match r with | 3 => some [0, 1, 2, 8, 9, 10] | _ => none)
 | 127 => (match r with | 2 => some [0, 1, 2, 3, 4, 10, 11] | _ => none)
 | 137 => (match r with | 2 => some [0, 3, 11, 12, 13] | 6 => some [0, 3] | 8 => some [0, 3, 6, 24, 25] | 15 => some [0, 3, 6, 54, 55] | _ => none)
 | 142 => (match r with | 2 => some [0, 1, 7, 8] | _ => none)
 | 143 => (match r with | 2 => some [0, 1, 7, 8] | _ => none)
 | 144 => (match r with | 3 => some [1, 5, 8, 9] | _ => none)
 | 146 => (match r with | 1 => some [0, 1, 3] | _ => none)
 | 147 => (match r with | 2 => some [0, 1, 7, 8] | _ => none)
 | 152 => (match r with | 1 => some [0, 1, 2, 3, 8] | 4 => some [0, 1, 2, 3, 8, 9] | _ => none)
 | 153 => (match r with | 4 => some [0, 3, 8, 9, 10, 11] | 8 => some [0, 3, 8, 9, 12] | _ => none)
 | 154 => (match r with | 5 => some [0, 1, 8, 9, 10, 11] | _ => none)
 | 156 => (match r with | 2 => some [0, 8, 9] | _ => none)
 | 157 => (match r with | 3 => some [0, 1, 2, 3, 9, 10] | 5 => some [0, 1, 2, 3, 9, 10] | 14 => some [0, 1, 2, 3, 9, 10, 11] | 20 => some [0, 1, 2, 3, 9, 10, 12] | _ => none)
 | 158 => (match r with | 3 => some [0, 1, 4, 11, 12] | 5 => some [0, 1, 4, 11, 12] | _ => none)
 | 159 => (match r with | 3 => some [0, 1, 4, 12, 13] | 5 => some [0, 1, 4, 12, 13] | 13 => some [0, 1, 4, 12, 13] | 15 => some [0, 1, 4, 12, 13] | _ => none)
 | 166 => (match r with | 5 => some [3, 4, 5, 32, 33, 34] | 9 => some [3, 4, 5, 32, 33, 34, 41] | _ => none)
 | 172 => (match r with | 1 => some [0, 2, 3, 4, 10] | _ => none)
 | 180 => (match r with | 1 => some [0, 1, 9] | _ => none)
 | 181 => (match r with | 1 => some [0, 2, 3] | _ => none)
 | _ => none
def ow : FuncId -> Nat -> Bool := fun g s => match g with
 | 43 => (match s with | 10 => true | _ => false)
 | 65 => (match s with | 39 => true | _ => false)
 | 68 => (match s with | 2 => true | 5 => true | _ => false)
 | 81 => (match s with | 7 => true | _ => false)
 | 108 => (match s with | 2 => true | _ => false)
 | 112 => (match s with | 5 => true | 13 => true | _ => false)
 | 118 => (match s with | 0 => true | 6 => true | 9 => true | 34 => true | _ => false)
 | 122 => (match s with | 0 => true | 22 => true | _ => false)
 | 144 => (match s with | 5 => true | _ => false)
 | 149 => (match s with | 5 => true | _ => false)
 | _ => false
def br : FuncId -> Nat -> Bool := fun g s => match g with
 | 66 => (match s with | 0 => true | _ => false)
 | 73 => (match s with | 0 => true | _ => false)
 | 81 => (match s with | 1 => true | 2 => true | _ => false)
 | 118 => (match s with | 0 => true | 2 => true | _ => false)
 | 122 => (match s with | 0 => true | _ => false)
 | 123 => (match s with | 0 => true | _ => false)
 | _ => false
def fz : FuncId -> Bool := fun g => match g with
 | 56 => false
 | 94 => false
 | 111 => false
 | 117 => false
 | 134 => false
 | 149 => false
 | _ => true
def sp : FuncId -> Bool := fun g => match g with
 | 68 => true
 | 149 => true
 | _ => false
def fx : FuncId -> List (List Nat) := fun g => match g with
 | 5 => [[2, 3]]
 | 13 => [[2, 3]]
 | 14 => [[2, 3]]
 | 16 => [[2, 3]]
 | 17 => [[0, 5, 3], [0, 5, 3]]
 | 18 => [[2, 3]]
 | 19 => [[2, 3]]
 | 20 => [[2, 3]]
 | 21 => [[2]]
 | 25 => [[0, 5, 3], [], [5]]
 | 26 => [[5], [5]]
 | 28 => [[0, 5, 3]]
 | 34 => [[0, 5, 3]]
 | 43 => [[0, 5, 3], [0, 5, 3], [0, 5, 3]]
 | 48 => [[0, 5, 3]]
 | 49 => [[2, 3]]
 | 52 => [[1], [1]]
 | 53 => [[2, 3], [1]]
 | 54 => [[2, 3]]
 | 56 => [[2, 3]]
 | 59 => [[2], [1]]
 | 60 => [[], [2]]
 | 64 => [[5]]
 | 65 => [[0, 5, 3], [], [5]]
 | 66 => [[3]]
 | 68 => [[5]]
 | 69 => [[3]]
 | 73 => [[2]]
 | 81 => [[0, 5, 3]]
 | 93 => [[3]]
 | 94 => [[3]]
 | 95 => [[0, 5, 5, 5]]
 | 98 => [[5], [5]]
 | 102 => [[5]]
 | 103 => [[2]]
 | 104 => [[3]]
 | 105 => [[0, 5, 3]]
 | 106 => [[1]]
 | 108 => [[1]]
 | 109 => [[2]]
 | 111 => [[1]]
 | 112 => [[2]]
 | 113 => [[1]]
 | 117 => [[0, 5, 3]]
 | 118 => [[3], [], [3]]
 | 120 => [[0, 5, 3]]
 | 121 => [[0, 5, 3]]
 | 122 => [[3]]
 | 123 => [[3]]
 | 124 => [[0, 5, 3]]
 | 127 => [[2]]
 | 134 => [[0, 5, 3]]
 | 136 => [[0, 5, 3]]
 | 141 => [[2], [1, 0]]
 | 142 => [[3]]
 | 143 => [[1]]
 | 147 => [[1]]
 | 149 => [[3]]
 | 150 => [[3], [3]]
 | 151 => [[3]]
 | 152 => [[2]]
 | 153 => [[2]]
 | 154 => [[2]]
 | 155 => [[2]]
 | 156 => [[2]]
 | 157 => [[2]]
 | 158 => [[2]]
 | 159 => [[2]]
 | 171 => [[3]]
 | 172 => [[2]]
 | 175 => [[2]]
 | 176 => [[2]]
 | 181 => [[3]]
 | 182 => [[2]]
 | _ => []
def wk : FuncId -> List (List Nat) := fun g => match g with
 | 16 => [[0, 5, 3], [1]]
 | 18 => [[0, 5, 3], [1]]
 | 19 => [[1]]
 | 20 => [[0, 5, 3], [], [1]]
 | 25 => [[0, 5, 3]]
 | 34 => [[2]]
 | 43 => [[0, 5, 3], [1]]
 | 50 => [[2, 3]]
 | 51 => [[0, 5, 3]]
 | 54 => [[0, 5, 3]]
 | 55 => [[1]]
 | 65 => [[0, 5, 3]]
 | 68 => [[5]]
 | 81 => [[2]]
 | 95 => [[5]]
 | 108 => [[1]]
 | 109 => [[1]]
 | 112 => [[1]]
 | 118 => [[3]]
 | 120 => [[0, 5, 3]]
 | 121 => [[0, 5, 3]]
 | 122 => [[3]]
 | 144 => [[1]]
 | _ => []
def sh : TypeId -> Option (List Sk) := fun t => match t with
 | 3 => some [.int .i64]
 | 4 => some [.bool]
 | 5 => some [.int .u8]
 | 9 => some [.str]
 | 21 => some [.int .i32]
 | 22 => some [.slx 2]
 | 23 => some [.slx 3]
 | 25 => some [.sl 2, .sl 3]
 | 26 => some [.sl 2, .sl 3]
 | 29 => some [.slx 5]
 | 31 => some [.str, .sl 5, .sl 3]
 | 32 => some [.slx 1]
 | 33 => some [.int .i64]
 | 37 => some [.slx 1]
 | 39 => some [.sl 1, .int .i64]
 | 55 => some [.slx 2]
 | 65 => some [.str, .sl 5]
 | 92 => some [.sl 2, .sl 3, .str, .sl 5, .sl 3, .int .i64, .sl 1, .int .i64]
 | 98 => some [.int .i64]
 | 100 => some [.int .i64, .int .i64, .str]
 | 102 => some [.int .i64, .int .i64, .int .i64, .int .i64, .str]
 | 158 => some [.int .u64]
 | 177 => some [.int .i64]
 | 184 => some [.int .u32]
 | 186 => some [.int .u64]
 | 190 => some [.int .u64]
 | 199 => some [.int .i64]
 | 210 => some [.int .u8, .int .u8]
 | _ => none
noncomputable def E0 (ext : FuncId -> Option (List V -> Hp -> Option (List V × Hp))) (seq : FuncId -> List V -> Hp -> Option (List (List V))) : Env := ⟨T, B, lv, hd, ow, br, fz, sp, fx, wk, ext, seq⟩
theorem env_ok {K : World -> Prop} {ext : FuncId -> Option (List V -> Hp -> Option (List V × Hp))} {seq : FuncId -> List V -> Hp -> Option (List (List V))} (h : ∀ g f args H vals H', ext g = some f -> f args H = some (vals, H') -> Enter Tryd.prog g /\ Sound Tryd.prog K g args H vals H') : EnvOk Tryd.prog K (E0 ext seq) := ⟨T_ok, B_ok, B_enter, h⟩
end Go.Proofs.YtgaabjmbnomimaaDoor
namespace Go.Proofs.YtgaabjmbnomimaaDoor
open Go Go.Ev
structure Val where
 k : Int
 n : Int
 s : List UInt8
 deriving DecidableEq, Inhabited
structure Row where
 a : Int
 b : Int
 v : Val
 deriving DecidableEq, Inhabited
structure Piece where
 a : Int
 b : Int
 h : Val
 w : Val
 deriving DecidableEq, Inhabited
def ev (v : Val) : List C := [.int .i64 v.k, .int .i64 v.n, .str v.s]
def er (r : Row) : List C := [.int .i64 r.a, .int .i64 r.b, .int .i64 r.v.k, .int .i64 r.v.n, .str r.v.s]
def ep (p : Piece) : List C := [.int .i64 p.a, .int .i64 p.b, .int .i64 p.h.k, .int .i64 p.h.n, .str p.h.s, .int .i64 p.w.k, .int .i64 p.w.n, .str p.w.s]
@[reducible] def VV (v : Val) : V := .agg [V.i v.k, V.i v.n, .c (.str v.s)]
def skR : List Sk := [.int .i64, .int .i64, .int .i64, .int .i64, .str]
def skP : List Sk := [.int .i64, .int .i64, .int .i64, .int .i64, .str, .int .i64, .int .i64, .str]
def dr (c : List C) : Row := ⟨(c.headD .pnil).i, (c.tail.headD .pnil).i, ⟨(c.tail.tail.headD .pnil).i, (c.tail.tail.tail.headD .pnil).i, (c.tail.tail.tail.tail.headD .pnil).st⟩⟩
def dp (c : List C) : Piece := ⟨(c.headD .pnil).i, (c.tail.headD .pnil).i, ⟨(c.tail.tail.headD .pnil).i, (c.tail.tail.tail.headD .pnil).i, (c.tail.tail.tail.tail.headD .pnil).st⟩,
 ⟨(c.tail.tail.tail.tail.tail.headD .pnil).i, (c.tail.tail.tail.tail.tail.tail.headD .pnil).i, (c.tail.tail.tail.tail.tail.tail.tail.headD .pnil).st⟩⟩
def rows (l : List Row) : List (List C) := l.map er
def pcs (l : List Piece) : List (List C) := l.map ep
def toRows (xs : LLC) : List Row := xs.map dr
def toPcs (xs : LLC) : List Piece := xs.map dp
def isRows (xs : LLC) : Bool := xs.all fun c => shOk skR c
def isPcs (xs : LLC) : Bool := xs.all fun c => shOk skP c
theorem er_of {c : List C} (h : shOk skR c = true) : c = er (dr c) := by
 conv => lhs; rw [<- shape_ok h]
 rfl
theorem rows_of {xs : List (List C)} (h : isRows xs = true) : xs = rows (toRows xs) := by
 induction xs with
 | nil => rfl
 | cons c r ih =>
   simp only [isRows, List.all_cons, Bool.and_eq_true] at h
   have h2 := ih h.2
   unfold rows toRows at h2 ⊢
   simp only [List.map_cons]
   rw [<- h2, <- er_of h.1]
@[simp] theorem dr_er (r : Row) : dr (er r) = r := rfl
@[simp] theorem dp_ep (p : Piece) : dp (ep p) = p := rfl
@[simp] theorem er_ok (r : Row) : shOk skR (er r) = true := rfl
@[simp] theorem ep_ok (p : Piece) : shOk skP (ep p) = true := rfl
@[simp] theorem toRows_rows (l : List Row) : toRows (rows l) = l := by simp [toRows, rows, Function.comp_def]
@[simp] theorem toPcs_pcs (l : List Piece) : toPcs (pcs l) = l := by simp [toPcs, pcs, Function.comp_def]
@[simp] theorem isRows_rows (l : List Row) : isRows (rows l) = true := by simp [isRows, rows]
@[simp] theorem isPcs_pcs (l : List Piece) : isPcs (pcs l) = true := by simp [isPcs, pcs]
@[simp] theorem rows_length (l : List Row) : (rows l).length = l.length := by simp [rows]
@[simp] theorem pcs_length (l : List Piece) : (pcs l).length = l.length := by simp [pcs]
theorem rows_getD {l : List Row} {i : Nat} (h : i < l.length) : (rows l).getD i [] = er l[i] := by simp [rows, List.getD_eq_getElem?_getD, h]
@[simp] theorem rows_take (l : List Row) (n : Nat) : (rows l).take n = rows (l.take n) := by simp [rows, List.map_take]
@[simp] theorem rows_drop (l : List Row) (n : Nat) : (rows l).drop n = rows (l.drop n) := by simp [rows, List.map_drop]
@[simp] theorem rows_append (l m : List Row) : rows l ++ rows m = rows (l ++ m) := by simp [rows]
@[simp] theorem pcs_take (l : List Piece) (n : Nat) : (pcs l).take n = pcs (l.take n) := by simp [pcs, List.map_take]
@[simp] theorem pcs_drop (l : List Piece) (n : Nat) : (pcs l).drop n = pcs (l.drop n) := by simp [pcs, List.map_drop]
@[simp] theorem pcs_append (l m : List Piece) : pcs l ++ pcs m = pcs (l ++ m) := by simp [pcs]
def checkV (v : Val) : Int := if v.k = 1 then (if v.s = [] then 0 else 2) else if v.k = 2 then (if v.n = 0 /\ v.s.length <= 40 /\ 0 <= runesL v.s then 0 else 2) else 2
def isSpan (a b : Int) : Bool := decide (0 <= a) && decide (a < b) && decide (b <= 1099511627776)
def okFrom : Option Row -> List Row -> Bool
 | _, [] => true
 | p, x :: r => isSpan x.a x.b && decide (checkV x.v = 0) && (match p with | none => true | some w => !(decide (x.a < w.b) || (decide (x.a = w.b) && decide (x.v = w.v)))) && okFrom (some x) r
def right (l : List Row) : Bool := decide (l.length <= 64) && okFrom none l
def checkR (l : List Row) : Int := if right l = true then 0 else 2
def bs (l : List Row) (t : Int) : Nat -> Nat -> Nat -> Nat
 | 0, lo, _ => lo
 | f + 1, lo, hi => if lo < hi then (if (l.getD ((lo + hi) / 2) default).b <= t then bs l t f ((lo + hi) / 2 + 1) hi else bs l t f lo ((lo + hi) / 2)) else lo
end Go.Proofs.YtgaabjmbnomimaaDoor
namespace Go.Proofs.YtgaabjmbnomimaaDoor
open Go Go.Ev
inductive Nd where
 | node (lab : Bys) (rows : List Row) (kids : List Nd)
instance : Inhabited Nd := ⟨.node [] [] []⟩
def Nd.lab : Nd -> List UInt8 | .node l _ _ => l
def Nd.rows : Nd -> List Row | .node _ x _ => x
def Nd.kids : Nd -> List Nd | .node _ _ x => x
theorem Nd.eta (t : Nd) : Nd.node t.lab t.rows t.kids = t := by cases t; rfl
mutual
def Nd.enc : Nd -> List C
 | .node lab rs kids => [.str lab, .sl 5 none false (Go.Proofs.YtgaabjmbnomimaaDoor.rows rs), .sl 3 none false (encL kids)]
def encL : List Nd -> List (List C)
 | [] => []
 | t :: r => t.enc :: encL r
end
theorem Nd.enc_eq (t : Nd) : t.enc = [.str t.lab, .sl 5 none false (Go.Proofs.YtgaabjmbnomimaaDoor.rows t.rows), .sl 3 none false (encL t.kids)] := by
 cases t; simp only [Nd.enc, Nd.lab, Nd.rows, Nd.kids]
theorem encL_map (l : List Nd) : encL l = l.map Nd.enc := by
 induction l with
 | nil => rfl
 | cons t r ih => simp only [encL, List.map_cons, ih]
@[simp] theorem encL_length (l : List Nd) : (encL l).length = l.length := by simp [encL_map]
theorem encL_getD {l : List Nd} {i : Nat} (h : i < l.length) (d : List C) : (encL l).getD i d = l[i].enc := by
 simp [encL_map, List.getD_eq_getElem?_getD, h]
mutual
def decC : C -> List Nd
 | .sl _ _ _ xs => decL xs
 | _ => []
def decL : List (List C) -> List Nd
 | [] => []
 | x :: r => decT x :: decL r
def decT : List C -> Nd
 | [a, b, c] => .node a.st (toRows b.xs) (decC c)
 | _ => default
end
def okB : C -> Bool
 | .sl 5 none false rs => isRows rs
 | _ => false
def okA : C -> Bool
 | .str _ => true
 | _ => false
mutual
def okK : C -> Bool
 | .sl z none false xs => z == 3 && isL xs
 | _ => false
def isL : List (List C) -> Bool
 | [] => true
 | x :: r => isT x && isL r
def isT : List C -> Bool
 | [a, b, c] => okA a && okB b && okK c
 | _ => false
end
mutual
theorem decT_enc : ∀ t : Nd, decT t.enc = t
 | .node lab rs kids => by
   rw [Nd.enc, decT, decC, decL_enc kids]
   simp [C.st, C.xs]
theorem decL_enc : ∀ l : List Nd, decL (encL l) = l
 | [] => rfl
 | t :: r => by rw [encL, decL, decT_enc t, decL_enc r]
end
mutual
theorem isT_enc : ∀ t : Nd, isT t.enc = true
 | .node lab rs kids => by
   rw [Nd.enc, isT, okK, isL_enc kids]
   simp [okA, okB]
theorem isL_enc : ∀ l : List Nd, isL (encL l) = true
 | [] => rfl
 | t :: r => by rw [encL, isL, isT_enc t, isL_enc r]; rfl
end
mutual
theorem okK_of : ∀ c : C, okK c = true -> c = .sl 3 none false (encL (decC c))
 | .sl z none false xs, h => by
   simp only [okK, Bool.and_eq_true, beq_iff_eq] at h
   rw [h.1, decC, <- isL_of xs h.2]
 | .sl _ (some _) _ _, h => by simp [okK] at h
 | .sl _ none true _, h => by simp [okK] at h
 | .int _ _, h => by simp [okK] at h
 | .bool _, h => by simp [okK] at h
 | .str _, h => by simp [okK] at h
 | .pnil, h => by simp [okK] at h
 | .inil, h => by simp [okK] at h
 | .fnil, h => by simp [okK] at h
theorem isL_of : ∀ xs : List (List C), isL xs = true -> xs = encL (decL xs)
 | [], _ => rfl
 | x :: r, h => by
   simp only [isL, Bool.and_eq_true] at h
   rw [decL, encL, <- isT_of x h.1, <- isL_of r h.2]
theorem isT_of : ∀ xs : List C, isT xs = true -> xs = (decT xs).enc
 | [a, b, c], h => by
   simp only [isT, Bool.and_eq_true] at h
   obtain ⟨⟨h1, h2⟩, h3⟩ := h
   rw [decT, Nd.enc, <- okK_of c h3]
   have e1 : a = .str a.st := by
     cases a <;> simp [okA] at h1
     rfl
   have e2 : b = .sl 5 none false (Go.Proofs.YtgaabjmbnomimaaDoor.rows (toRows b.xs)) := by
     unfold okB at h2
     split at h2
     · simp only [C.xs]; rw [<- rows_of h2]
     · simp at h2
   rw [<- e1, <- e2]
 | [], h => by simp [isT] at h
 | [_], h => by simp [isT] at h
 | [_, _], h => by simp [isT] at h
 | _ :: _ :: _ :: _ :: _, h => by simp [isT] at h
end
theorem isL_ex {xs : List (List C)} (h : isL xs = true) : ∃ l, xs = encL l := ⟨_, isL_of xs h⟩
def hdB (l : Bys) : Int := ((l.headD 0).toNat : Int)
mutual
def okT : Nd -> Nat -> Bool
 | .node lab rs kids, left => decide (lab ≠ []) && decide (lab.length <= left) && right rs && (decide (rs ≠ []) || decide (2 <= kids.length)) && okL kids (left - lab.length) (-1)
def okL : List Nd -> Nat -> Int -> Bool
 | [], _, _ => true
 | t :: r, left, f => okT t left && decide (f < hdB t.lab) && okL r left (hdB t.lab)
end
theorem okT_eq (t : Nd) (n : Nat) : okT t n = (decide (t.lab ≠ []) && decide (t.lab.length <= n) && right t.rows && (decide (t.rows ≠ []) || decide (2 <= t.kids.length)) && okL t.kids (n - t.lab.length) (-1)) := by
 cases t; simp only [okT, Nd.lab, Nd.rows, Nd.kids]; rfl
def okR (t : Nd) : Bool := decide (t.lab = []) && decide (t.rows = []) && okL t.kids 24 (-1)
abbrev Ent := List UInt8 × List Row
mutual
def entT : Nd -> List Ent
 | .node lab rs kids => (if rs = [] then [] else [(lab, rs)]) ++ (entL kids).map fun e => (lab ++ e.1, e.2)
def entL : List Nd -> List Ent
 | [] => []
 | t :: r => entT t ++ entL r
end
theorem entT_eq (t : Nd) : entT t = (if t.rows = [] then [] else [(t.lab, t.rows)]) ++ (entL t.kids).map fun e => (t.lab ++ e.1, e.2) := by
 cases t; simp only [entT, Nd.lab, Nd.rows, Nd.kids]; rfl
def look : List Ent -> List UInt8 -> List Row
 | [], _ => []
 | e :: r, p => if e.1 = p then e.2 else look r p
def findK (b : UInt8) (l : List Nd) : Option Nd := l.find? fun k => decide (k.lab.head? = some b)
def getW : Nat -> Nd -> List UInt8 -> List Row
 | 0, t, _ => t.rows
 | n + 1, t, p => match p with
   | [] => t.rows
   | b :: _ => match findK b t.kids with
     | none => []
     | some k => if k.lab <+: p then getW n k (p.drop k.lab.length) else []
theorem look_append (a b : List Ent) (p : Bys) (h : ∀ e ∈ a, e.2 ≠ []) : look (a ++ b) p = if look a p = [] then look b p else look a p := by
 induction a with
 | nil => simp [look]
 | cons e r ih =>
   simp only [List.cons_append, look]
   split
   · rw [if_neg (h e (by simp))]
   · exact ih fun x hx => h x (by simp [hx])
theorem look_none {l : List Ent} {p : List UInt8} (h : ∀ e ∈ l, e.1 ≠ p) : look l p = [] := by
 induction l with
 | nil => rfl
 | cons e r ih =>
   simp only [look]
   rw [if_neg (h e (by simp)), ih fun x hx => h x (by simp [hx])]
theorem look_map (l : List Ent) (a p : Bys) : look (l.map fun e => (a ++ e.1, e.2)) (a ++ p) = look l p := by
 induction l with
 | nil => rfl
 | cons e r ih => simp only [List.map_cons, look, List.append_cancel_left_eq, ih]
mutual
theorem entT_ne : ∀ (t : Nd), ∀ e ∈ entT t, e.2 ≠ []
 | .node lab rs kids, e, h => by
   simp only [entT, List.mem_append, List.mem_map] at h
   rcases h with h | ⟨x, hx, rfl⟩
   · split at h
     · simp at h
     · simp only [List.mem_singleton] at h; subst h; assumption
   · exact entL_ne kids x hx
theorem entL_ne : ∀ (l : List Nd), ∀ e ∈ entL l, e.2 ≠ []
 | [], e, h => by simp [entL] at h
 | t :: r, e, h => by
   simp only [entL, List.mem_append] at h
   exact h.elim (entT_ne t e) (entL_ne r e)
end
theorem entT_pre (t : Nd) : ∀ e ∈ entT t, ∃ s, e.1 = t.lab ++ s := by
 intro e h
 rw [entT_eq] at h
 simp only [List.mem_append, List.mem_map] at h
 rcases h with h | ⟨x, _, rfl⟩
 · split at h
   · simp at h
   · simp only [List.mem_singleton] at h; subst h; exact ⟨[], by simp⟩
 · exact ⟨x.1, rfl⟩
theorem entL_pre {l : List Nd} {e : Ent} (h : e ∈ entL l) : ∃ t ∈ l, ∃ s, e.1 = t.lab ++ s := by
 induction l with
 | nil => simp [entL] at h
 | cons t r ih =>
   simp only [entL, List.mem_append] at h
   rcases h with h | h
   · exact ⟨t, by simp, entT_pre t e h⟩
   · obtain ⟨u, hu, h2⟩ := ih h
     exact ⟨u, by simp [hu], h2⟩
theorem okL_mem {l : List Nd} {n : Nat} {f : Int} (h : okL l n f = true) : ∀ t ∈ l, okT t n = true /\ f < hdB t.lab := by
 induction l generalizing f with
 | nil => simp
 | cons t r ih =>
   simp only [okL, Bool.and_eq_true, decide_eq_true_eq] at h
   intro u hu
   rcases List.mem_cons.1 hu with rfl | hu
   · exact ⟨h.1.1, h.1.2⟩
   · have := ih h.2 u hu
     exact ⟨this.1, by omega⟩
theorem okT_lab {t : Nd} {n : Nat} (h : okT t n = true) : t.lab ≠ [] /\ t.lab.length <= n /\ okL t.kids (n - t.lab.length) (-1) = true := by
 rw [okT_eq] at h
 simp only [Bool.and_eq_true, decide_eq_true_eq] at h
 exact ⟨h.1.1.1.1, h.1.1.1.2, h.2⟩
theorem hdB_head {l : List UInt8} {b : UInt8} (h : l.head? = some b) : hdB l = (b.toNat : Int) := by
 cases l with
 | nil => simp at h
 | cons x r => simp only [List.head?_cons, Option.some.injEq] at h; subst h; rfl
theorem head_of_ne {l : List UInt8} (h : l ≠ []) : ∃ b r, l = b :: r := by
 cases l with
 | nil => exact absurd rfl h
 | cons b r => exact ⟨b, r, rfl⟩
theorem look_entL {l : List Nd} {n : Nat} {f : Int} (h : okL l n f = true) (b : UInt8) (p : Bys) :
   look (entL l) (b :: p) = match findK b l with
     | none => []
     | some k => if k.lab <+: b :: p then (if (b :: p).drop k.lab.length = [] then k.rows else look (entL k.kids) ((b :: p).drop k.lab.length)) else [] := by
 induction l generalizing f with
 | nil => rfl
 | cons t r ih =>
   simp only [okL, Bool.and_eq_true, decide_eq_true_eq] at h
   obtain ⟨⟨ht, hf⟩, hr⟩ := h
   have hne := (okT_lab ht).1
   obtain ⟨c, s, hlab⟩ := head_of_ne hne
   simp only [entL, findK, List.find?_cons]
   rw [look_append _ _ _ (entT_ne t)]
   by_cases hc : c = b
   · subst hc
     have h1 : decide (t.lab.head? = some c) = true := by simp [hlab]
     simp only [h1]
     have h2 : look (entL r) (c :: p) = [] := look_none fun e he hh => by
       obtain ⟨u, hu, s', hs⟩ := entL_pre he
       have h3 := (okL_mem hr u hu)
       obtain ⟨d, s2, hd⟩ := head_of_ne (okT_lab h3.1).1
       rw [hs, hd] at hh
       simp only [List.cons_append, List.cons.injEq] at hh
       have h4 := h3.2
       rw [hdB_head (l := u.lab) (b := d) (by simp [hd]), hdB_head (l := t.lab) (b := c) (by simp [hlab]), hh.1] at h4
       omega
     rw [h2]
     have h5 : ∀ x : List Row, (if x = [] then [] else x) = x := fun x => by split <;> simp_all
     rw [h5]
     split
     · rename_i hp
       obtain ⟨q, hq⟩ := hp
       have h6 : (c :: p).drop t.lab.length = q := by rw [<- hq]; simp
       rw [h6, ← hq, entT_eq, look_append _ _ _ (by intro e he; split at he; · simp at he
                                                    · simp only [List.mem_singleton] at he; subst he; assumption), look_map]
       have h7 : look (if t.rows = [] then [] else [(t.lab, t.rows)]) (t.lab ++ q) = if q = [] then t.rows else [] := by
         split
         · split <;> simp_all [look]
         · simp only [look]
           by_cases hq0 : q = []
           · simp [hq0]
           · simp [hq0]
       rw [h7]
       by_cases hq0 : q = []
       · simp only [hq0, if_true]
         split
         · rename_i h8
           rw [h8]
           refine look_none fun e he hh => ?_
           obtain ⟨u, hu, s', hs⟩ := entL_pre he
           obtain ⟨d, s2, hd⟩ := head_of_ne (okT_lab (okL_mem (okT_lab ht).2.2 u hu).1).1
           rw [hs, hd] at hh
           simp at hh
         · rfl
       · simp [hq0]
     · rename_i hp
       refine look_none fun e he hh => hp ?_
       obtain ⟨s', hs⟩ := entT_pre t e he
       exact ⟨s', by rw [<- hs, hh]⟩
   · have h1 : decide (t.lab.head? = some b) = false := by simp [hlab, hc]
     simp only [h1]
     have h2 : look (entT t) (b :: p) = [] := look_none fun e he hh => by
       obtain ⟨s', hs⟩ := entT_pre t e he
       rw [hs, hlab] at hh
       simp only [List.cons_append, List.cons.injEq] at hh
       exact hc hh.1
     rw [h2, if_pos rfl]
     exact ih hr
theorem getW_look (m : Nat) : ∀ {t : Nd} {n : Nat} {f : Int} (_ : okL t.kids n f = true) (p : Bys), p.length <= m -> getW m t p = if p = [] then t.rows else look (entL t.kids) p := by
 induction m with
 | zero =>
   intro t n f _ p hp
   have : p = [] := by cases p <;> simp_all
   simp [this, getW]
 | succ m ih =>
   intro t n f h p hp
   cases p with
   | nil => simp [getW]
   | cons b p =>
     rw [if_neg (by simp), look_entL h]
     simp only [getW]
     cases hk : findK b t.kids with
     | none => rfl
     | some k =>
       have hm : k ∈ t.kids := List.mem_of_find?_eq_some hk
       have h1 := okT_lab (okL_mem h k hm).1
       simp only
       split
       · rw [ih h1.2.2 _ (by
           have : 0 < k.lab.length := List.length_pos_iff.2 h1.1
           simp only [List.length_drop, List.length_cons] at hp ⊢; omega)]
       · rfl
def getR (t : Nd) (p : Bys) : List Row := if okR t = true then getW p.length t p else []
theorem getR_look (t : Nd) (p : Bys) : getR t p = if okR t = true then look (entL t.kids) p else [] := by
 unfold getR
 split
 · rename_i h
   simp only [okR, Bool.and_eq_true, decide_eq_true_eq] at h
   rw [getW_look p.length h.2 p (Nat.le_refl _)]
   split
   · rename_i hp
     rw [h.1.2, hp]
     refine (look_none fun e he hh => ?_).symm
     obtain ⟨u, hu, s', hs⟩ := entL_pre he
     obtain ⟨d, s2, hd⟩ := head_of_ne (okT_lab (okL_mem h.2 u hu).1).1
     rw [hs, hd] at hh
     simp at hh
   · rfl
 · rfl
end Go.Proofs.YtgaabjmbnomimaaDoor
namespace Go.Proofs.YtgaabjmbnomimaaDoor.Gr
open Go Go.Ev
abbrev Cm := List Int × Int
def ec (c : Cm) : List C := [.sl 1 none false (ints c.1), .int .i64 c.2]
def repo (l : List Cm) : List (List C) := l.map ec
def toRepo (xs : LLC) : List Cm := xs.map fun c => (toInts (c.headD .pnil).xs, (c.tail.headD .pnil).i)
def isRepo (xs : LLC) : Bool := xs.all fun c => shOk [.sl 1, .int .i64] c && isInts (c.headD .pnil).xs
theorem ec_of {c : List C} (h : (shOk [.sl 1, .int .i64] c && isInts (c.headD .pnil).xs) = true) : c = ec (toInts (c.headD .pnil).xs, (c.tail.headD .pnil).i) := by
 simp only [Bool.and_eq_true] at h
 have h1 := shape_ok h.1
 unfold ec
 rw [<- ints_of h.2]
 conv => lhs; rw [<- h1]
 rfl
theorem repo_of {xs : List (List C)} (h : isRepo xs = true) : xs = repo (toRepo xs) := by
 induction xs with
 | nil => rfl
 | cons c r ih =>
   simp only [isRepo, List.all_cons] at h
   rw [Bool.and_eq_true] at h
   have h2 := ih h.2
   unfold repo toRepo at h2 ⊢
   simp only [List.map_cons]
   rw [<- h2, <- ec_of h.1]
@[simp] theorem toRepo_repo (l : List Cm) : toRepo (repo l) = l := by
 simp [toRepo, repo, ec, Function.comp_def, C.xs, C.i]
@[simp] theorem isRepo_repo (l : List Cm) : isRepo (repo l) = true := by
 simp [isRepo, repo, ec, shOk, Sk.ok, C.xs]
@[simp] theorem repo_length (l : List Cm) : (repo l).length = l.length := by simp [repo]
theorem repo_getD {l : List Cm} {i : Nat} (h : i < l.length) : (repo l).getD i [] = ec l[i] := by
 simp [repo, List.getD_eq_getElem?_getD, h]
@[simp] theorem ec_ok (c : Cm) : shOk [.sl 1, .int .i64] (ec c) = true := rfl
@[simp] theorem ec_par (c : Cm) (d : C) : ((ec c).headD d).xs = ints c.1 := rfl
@[simp] theorem ec_stamp (c : Cm) (d : C) : ((ec c).tail.headD d).i = c.2 := rfl
@[simp] theorem repo_take (l : List Cm) (n : Nat) : (repo l).take n = repo (l.take n) := by simp [repo, List.map_take]
@[simp] theorem repo_drop (l : List Cm) (n : Nat) : (repo l).drop n = repo (l.drop n) := by simp [repo, List.map_drop]
def noNum (len : Nat) (n : Int) : Bool := decide (n < 1) || decide ((len : Int) < n)
def lateFor (l : List Cm) (st n : Int) : Bool := decide (st <= (l.getD (n - 1).toNat ([], 0)).2)
def faultG (l : List Cm) (c : Cm) : Int :=
 if c.2 < 0 \/ 1099511627776 < c.2 \/ 2 < c.1.length \/ (c.1.length = 2 /\ c.1.getD 0 0 = c.1.getD 1 0) then 2
 else if c.1.any (noNum l.length) then 17
 else if c.1.any (lateFor l c.2) then 14
 else 0
def checkFrom (l : List Cm) : Nat -> Nat -> Int × Int
 | 0, _ => (l.length, 0)
 | k + 1, i => if faultG (l.take i) (l.getD i ([], 0)) = 0 then checkFrom l k (i + 1) else (i + 1, faultG (l.take i) (l.getD i ([], 0)))
def checkG (l : List Cm) : Int × Int := if 500 < l.length then (500, 5) else checkFrom l l.length 0
def s167 : CSpec := fun a h => match a, h with
 | [.c (.int .i64 n), .ptr 0 0 0 0], [.box [.c (.sl 2 nl t xs)]] => some ([], [V.b (noNum xs.length n)], [.box [.c (.sl 2 nl t xs)]])
 | _, _ => none
def s114 : CSpec := s167
def s168 : CSpec := fun a h => match a, h with
 | [.c (.int .i64 n), .ptr 0 0 0 0, .ptr 1 0 0 0], [.box [.c (.sl 2 nl t xs)], .box [.c c, .c (.int .i64 st)]] =>
   some ([isRepo xs, !noNum xs.length n, decide (xs.length <= 500)], [V.b (lateFor (toRepo xs) st n)], [.box [.c (.sl 2 nl t xs)], .box [.c c, .c (.int .i64 st)]])
 | _, _ => none
end Go.Proofs.YtgaabjmbnomimaaDoor.Gr
namespace Go.Proofs.YtgaabjmbnomimaaDoor.Gr
open Go Go.Ev
def smallB (l : List Cm) : Bool := l.all fun c => decide (c.1.length <= 4294967296)
def right (l : List Cm) : Bool := (checkG l).2 == 0
def hasG (l : List Cm) (some : List Int) : Bool := right l && !some.any (noNum l.length)
def firstFrom (l : List Cm) : Nat -> List Int -> List Int
 | 0, _ => []
 | _ + 1, [] => []
 | k + 1, p :: _ => p :: firstFrom l k (l.getD (p - 1).toNat ([], 0)).1
def firstG (l : List Cm) (n : Int) : List Int := if hasG l [n] then n :: firstFrom l n.toNat (l.getD (n - 1).toNat ([], 0)).1 else []
def s103 : CSpec := fun a h => match a, h with
 | [.c (.sl 2 _ _ xs)], [] => some ([isRepo xs, smallB (toRepo xs)], [V.i (checkG (toRepo xs)).1, V.i (checkG (toRepo xs)).2], [])
 | _, _ => none
def s59 : CSpec := fun a h => match a, h with
 | [.c (.sl 2 _ _ xs), .c (.sl 1 _ _ ys)], [] => some ([isRepo xs, smallB (toRepo xs), isInts ys, decide (ys.length <= 4294967296)], [V.b (hasG (toRepo xs) (toInts ys))], [])
 | _, _ => none
def s112 : CSpec := fun a h => match a, h with
 | [.c (.sl 2 _ _ xs), .c (.int .i64 n)], [] => some ([isRepo xs, smallB (toRepo xs)], [.c (.sl 1 none false (ints (firstG (toRepo xs) n)))], [])
 | _, _ => none
end Go.Proofs.YtgaabjmbnomimaaDoor.Gr
namespace Go.Ev
open Go
variable {P : Program}
theorem run_copy_rowK (w : World) (dT sT ty elem : TypeId) (z : Nat) (g o dLen dCap : Nat) (a : Addr) (sLen sCap : Nat) (cur : Array Value) (t : TypeId) (cs : List Value)
   (hu : P.underlying dT = some (.slice elem)) (hs : (P.info? elem).map (·.size) = some z)
   (hg : w.heap[g]? = some (.cells cur t (0, 0))) (hn : cs.length = Nat.min sLen dLen * z)
   (hsrc : ∀ j v, cs[j]? = some v -> w.cell? (a.add j) = some v) (hfit : o + cs.length <= cur.size) (h1 : ∀ v ∈ cs, v.oneCell' = true) :
   (Builtin.copy_ #[dT, sT] ty #[.slice (some ⟨g, o, none⟩) dLen dCap, .slice (some a) sLen sCap]).run P w =
     .ok (goInt (Nat.min sLen dLen)) (w.setRow g (cur.toList.take o ++ cs ++ cur.toList.drop (o + cs.length)).toArray) := by
 have hl := run_loadCells_list (P := P) w a cs hsrc
 have hst := run_storeCells_at P g o t cs 0 cur w hg (by simpa using hfit) h1
 cases hq : P.info? elem with
 | none => simp [hq] at hs
 | some i =>
   have hi : i.size = z := by simpa [hq] using hs
   simp [Builtin.copy_, run_underlying hu, Builtin.lenOf, Builtin.firstCells, sizeOf, typeInfo, hq, hi, <- hn, hl, hst]
end Go.Ev
namespace Go.Proofs.YtgaabjmbnomimaaDoor
open Go Go.RowKit Go.Ev
set_option maxRecDepth 100000
theorem under23 : Tryd.prog.underlying 23 = some (.slice 31) := by kernel_rfl
theorem size31 : (Tryd.prog.info? 31).map (·.size) = some 3 := by kernel_rfl
theorem wp_append_runI {P : Program} (w : World) {o : Oper} {a : Act} {K : Act -> World -> Prop} {Q : Exit -> Act -> World -> Prop} (d s : Operand) (t t' : TypeId)
   (ho : o.op = .call { callee := .builtin .append, args := #[d, s], argTypes := #[t, t'] }) (v u : Value) (hd : a.eval d = v) (hs : a.eval s = u) {v' : Value} {w' : World}
   (hr : (Builtin.append_ #[t, t'] o.type #[v, u]).run P w = .ok v' w') (h : K (a.put o.dst v') w') : o.wp P a w K Q := by
 unfold Oper.wp execOp
 simp only [ho, resolve, invoke, builtin, Sem.run_bind, Sem.run_pure, Result.andThen_ok, List.map_toArray, List.map_cons, List.map_nil, hd, hs, hr]
 exact h
theorem wpList_append_runI {P : Program} (w : World) {ops : Array Oper} {rest : List Oper} {o : Oper} {a : Act} {Q : Exit -> Act -> World -> Prop} (hgd : o.guard = none) (d s : Operand) (t t' : TypeId)
   (ho : o.op = .call { callee := .builtin .append, args := #[d, s], argTypes := #[t, t'] }) (v u : Value) (hd : a.eval d = v) (hs : a.eval s = u) {v' : Value} {w' : World}
   (hr : (Builtin.append_ #[t, t'] o.type #[v, u]).run P w = .ok v' w') (h : wpList P ops Q rest (a.put o.dst v') w') : wpList P ops Q (o :: rest) a w :=
 wpList_plain hgd fun _ hK => wp_append_runI w d s t t' ho v u hd hs hr (hK _ _ h)
theorem insert_end (w : World) (n : Nat) (r : Value) (w' : World) (sc : Nat) (base : Option Addr) (hn : n <= sc) (hb : base = none -> sc = 0) (va : Addr) (vc : Nat)
   (hrun : (Builtin.append_ #[23, 23] 23 #[.slice base n sc, .slice (some va) 1 vc]).run Tryd.prog w = .ok r w') :
   Calls Tryd.prog 118 #[.slice base n sc, .int .i64 n, .slice (some va) 1 vc] w fun e w1 => e = .returned r /\ w1 = w' := by
 have u27 := under23
 cases base with
 | none =>
   obtain rfl := hb rfl
   obtain rfl : n = 0 := by omega
   go_enter Tryd.func118, Tryd.ntmps118
   go_wp2_with (at_builtin; refine wpList_append_runI _ rfl _ _ 23 23 rfl _ _ rfl rfl hrun ?_)
   all_goals
     go_ret
     exact ⟨rfl, rfl⟩
 | some sa =>
   go_enter Tryd.func118, Tryd.ntmps118
   go_wp2_with (at_builtin; refine wpList_append_runI _ rfl _ _ 23 23 rfl _ _ rfl rfl hrun ?_)
   all_goals
     go_ret
     exact ⟨rfl, rfl⟩
set_option maxHeartbeats 4000000 in
theorem insert_grow (w : World) (n i sc : Nat) (sa : Addr) (hi : i < n) (hn : n <= sc) (hc : sc < n + 1) (h63 : n < 9223372036854775806) (va : Addr) (vc : Nat)
   (g : Nat) (gc : Nat) (hgc : n + 1 <= gc) (w1 w2 w3 : World)
   (hrun : ∀ ty, (Builtin.append_ #[23, 3] ty #[.slice (some sa) i sc, .int .i64 ((n + 1 - i : Nat) : Int)]).run Tryd.prog w = .ok (.slice (some ⟨g, 0, none⟩) (n + 1) gc) w1)
   (hcp1 : ∀ ty dc, (Builtin.copy_ #[23, 23] ty #[.slice (some ⟨g, i * 3, none⟩) (n + 1 - i) dc, .slice (some va) 1 vc]).run Tryd.prog w1 = .ok (.int .i64 1) w2)
   (hcp2 : ∀ ty dc xc, (Builtin.copy_ #[23, 23] ty #[.slice (some ⟨g, (i + 1) * 3, none⟩) (n - i) dc, .slice (some (sa.add (i * 3))) (n - i) xc]).run Tryd.prog w2.drew = .ok (goInt (n - i)) w3) :
   Calls Tryd.prog 118 #[.slice (some sa) n sc, .int .i64 i, .slice (some va) 1 vc] w fun e w' => e = .returned (.slice (some ⟨g, 0, none⟩) (n + 1) gc) /\ w' = w3 := by
 have u23 := under23
 have hz1 : ¬ ((i : Int) = (n : Int)) := by omega
 have hw1 : IntKind.i64.wrap ((n : Int) + 1) = (n : Int) + 1 := by rw [IntKind.wrap_i64]; omega
 have hw2 : IntKind.i64.wrap ((n : Int) + 1 - (i : Int)) = ((n + 1 - i : Nat) : Int) := by rw [IntKind.wrap_i64]; omega
 have hw3 : IntKind.i64.wrap ((i : Int) + 1) = (i : Int) + 1 := by rw [IntKind.wrap_i64]; omega
 have hg : (n : Int) + 1 > (sc : Int) := by omega
 have hb1 : ¬ (gc = i) := by omega
 have hb2 : ¬ (sc = i) := by omega
 have hb3 : ¬ (gc = i + 1) := by omega
 have hin : i <= n := by omega
 have htn : ((i : Int) + 1).toNat = i + 1 := by omega
 have hb4 : (0 : Int) <= (i : Int) + 1 := by omega
 have mixed : Tryd.prog.follows .mixedOrders = true := by kernel_rfl
 go_enter Tryd.func118, Tryd.ntmps118
 go_wp2_with (at_builtin; first | refine wpList_append_runI _ rfl _ _ 23 3 rfl _ _ rfl rfl (hrun _) ?_ | refine wpList_copy_runI _ rfl _ _ 23 23 rfl _ _ rfl rfl (hcp1 _ _) ?_)
 all_goals
   go_region_law_o (refine step_copy_runI rfl _ _ 23 23 rfl _ _ (by simp [Act.eval, Act.put]) (by simp [Act.eval, Act.put]) (hcp2 _ _ _) ?_)
 all_goals go_wp2
 all_goals go_ret
 all_goals exact ⟨rfl, rfl⟩
set_option maxHeartbeats 4000000 in
theorem insert_room (w : World) (n i sc : Nat) (sa : Addr) (hi : i < n) (hn : n <= sc) (hc : n + 1 <= sc) (h63 : n < 9223372036854775806) (va : Addr) (vc : Nat) (w1 w2 : World)
   (hov : ∀ lb cb, (callFunc 150 #[.slice (some va) 1 vc, .slice (some (sa.add ((i + 1) * 3))) lb cb]).run Tryd.prog w = .ok (.value (.bool false)) w)
   (hcp1 : ∀ ty dc xc, (Builtin.copy_ #[23, 23] ty #[.slice (some (sa.add ((i + 1) * 3))) (n - i) dc, .slice (some (sa.add (i * 3))) (n + 1 - i) xc]).run Tryd.prog w.drew = .ok (goInt (n - i)) w1)
   (hcp2 : ∀ ty dc, (Builtin.copy_ #[23, 23] ty #[.slice (some (sa.add (i * 3))) (n + 1 - i) dc, .slice (some va) 1 vc]).run Tryd.prog w1 = .ok (.int .i64 1) w2) :
   Calls Tryd.prog 118 #[.slice (some sa) n sc, .int .i64 i, .slice (some va) 1 vc] w fun e w' => e = .returned (.slice (some sa) (n + 1) sc) /\ w' = w2 := by
 have u23 := under23
 have hz1 : ¬ ((i : Int) = (n : Int)) := by omega
 have hw1 : IntKind.i64.wrap ((n : Int) + 1) = (n : Int) + 1 := by rw [IntKind.wrap_i64]; omega
 have hw3 : IntKind.i64.wrap ((i : Int) + 1) = (i : Int) + 1 := by rw [IntKind.wrap_i64]; omega
 have hg : ¬ ((n : Int) + 1 > (sc : Int)) := by omega
 have hb2 : ¬ (sc = i) := by omega
 have hb3 : ¬ (sc = i + 1) := by omega
 have hin : i <= n := by omega
 have htn : ((i : Int) + 1).toNat = i + 1 := by omega
 have htn2 : ((n : Int) + 1).toNat = n + 1 := by omega
 have hb4 : (0 : Int) <= (i : Int) + 1 := by omega
 have hb5 : (0 : Int) <= (n : Int) + 1 := by omega
 have hb6 : (i : Int) <= (n : Int) + 1 := by omega
 have hb7 : (i : Int) + 1 <= (n : Int) + 1 := by omega
 have hb8 : (n : Int) + 1 <= (sc : Int) := by omega
 have mixed : Tryd.prog.follows .mixedOrders = true := by kernel_rfl
 go_enter Tryd.func118, Tryd.ntmps118
 go_wp2_with (simp only [hov])
 all_goals
   go_region_law_o (refine step_copy_runI rfl _ _ 23 23 rfl _ _ (by simp [Act.eval, Act.put]) (by simp [Act.eval, Act.put]) (hcp1 _ _ _) ?_)
 all_goals go_wp2_with (at_builtin; refine wpList_copy_runI _ rfl _ _ 23 23 rfl _ _ rfl rfl (hcp2 _ _) ?_)
 all_goals go_ret
 all_goals exact ⟨rfl, rfl⟩
theorem step_append_runI {P : Program} {ops : Array Oper} {o : Oper} {a : Act} {w : World} {K : Act -> World -> Prop} {Q : Exit -> Act -> World -> Prop} {E : Prop}
   (hg : o.guard = none) (d x : Operand) (dT sT : TypeId) (hop : o.op = Op.call { callee := Callee.builtin Builtin.append, args := #[d, x], argTypes := #[dT, sT] })
   (v u : Value) (hd : a.eval d = v) (hx : a.eval x = u) {v' : Value} {w' : World} (hr : (Builtin.append_ #[dT, sT] o.type #[v, u]).run P w = .ok v' w') (hK : K (a.put o.dst v') w') :
   if Region.wanted o (yielded ops a.tmps) = true then Oper.wp P o a w K Q else E := by
 have hw : Region.wanted o (yielded ops a.tmps) = true := by simp [Region.wanted, hg]
 rw [if_pos hw]
 unfold Oper.wp
 simp [execOp, hop, resolve, invoke, builtin, hd, hx, hr, Result.andThen]
 exact hK
theorem wp_clear_runI {P : Program} (w : World) {o : Oper} {a : Act} {K : Act -> World -> Prop} {Q : Exit -> Act -> World -> Prop} (d : Operand) (t : TypeId)
   (ho : o.op = .call { callee := .builtin .clear, args := #[d], argTypes := #[t] }) (v : Value) (hd : a.eval d = v) {v' : Value} {w' : World}
   (hr : (Builtin.clear_ #[t] o.type #[v]).run P w = .ok v' w') (h : K (a.put o.dst v') w') : o.wp P a w K Q := by
 unfold Oper.wp execOp
 simp only [ho, resolve, invoke, builtin, Sem.run_bind, Sem.run_pure, Result.andThen_ok, List.map_toArray, List.map_cons, List.map_nil, hd, hr]
 exact h
theorem wpList_clear_runI {P : Program} (w : World) {ops : Array Oper} {rest : List Oper} {o : Oper} {a : Act} {Q : Exit -> Act -> World -> Prop} (hgd : o.guard = none) (d : Operand) (t : TypeId)
   (ho : o.op = .call { callee := .builtin .clear, args := #[d], argTypes := #[t] }) (v : Value) (hd : a.eval d = v) {v' : Value} {w' : World}
   (hr : (Builtin.clear_ #[t] o.type #[v]).run P w = .ok v' w') (h : wpList P ops Q rest (a.put o.dst v') w') : wpList P ops Q (o :: rest) a w :=
 wpList_plain hgd fun _ hK => wp_clear_runI w d t ho v hd hr (hK _ _ h)
set_option maxHeartbeats 4000000 in
theorem delete_one (w : World) (n i sc : Nat) (sa : Addr) (hi : i < n) (hn : n <= sc) (h63 : n < 9223372036854775806) (w1 w2 : World) (x : Value)
   (hrun : ∀ ty, (Builtin.append_ #[23, 23] ty #[.slice (some sa) i sc, .slice (if sc = i + 1 then some sa else some (sa.add ((i + 1) * 3))) (n - (i + 1)) (sc - (i + 1))]).run Tryd.prog w.drew = .ok (.slice (some sa) (n - 1) sc) w1)
   (hclr : ∀ ty dc, (Builtin.clear_ #[23] ty #[.slice (some (sa.add ((n - 1) * 3))) 1 dc]).run Tryd.prog w1 = .ok x w2) :
   Calls Tryd.prog 122 #[.slice (some sa) n sc, .int .i64 i, .int .i64 ((i + 1 : Nat) : Int)] w fun e w' => e = .returned (.slice (some sa) (n - 1) sc) /\ w' = w2 := by
 have u23 := under23
 have hz1 : ¬ ((i : Int) = ((i + 1 : Nat) : Int)) := by omega
 have hin : i <= n := by omega
 have hin1 : i + 1 <= n := by omega
 have hin2 : i <= i + 1 := by omega
 have hin3 : i + 1 <= sc := by omega
 have hin4 : i <= sc := by omega
 have hb2 : ¬ (sc = n - 1) := by omega
 have hb3 : n - 1 <= n := by omega
 have hb4 : n - (n - 1) = 1 := by omega
 have hc1 : (0 : Int) <= (i : Int) + 1 := by omega
 have hc2 : (i : Int) + 1 <= (n : Int) := by omega
 have mixed : Tryd.prog.follows .mixedOrders = true := by kernel_rfl
 go_enter Tryd.func122, Tryd.ntmps122
 go_wp2
 all_goals
   go_region_law_o (refine step_append_runI rfl _ _ 23 23 rfl _ _ (by simp [Act.eval, Act.put]) (by simp [Act.eval, Act.put]) (hrun _) ?_)
 all_goals go_wp2_with (at_builtin; refine wpList_clear_runI _ rfl _ 23 rfl _ rfl (hclr _ _) ?_)
 all_goals go_ret
 all_goals exact ⟨rfl, rfl⟩
end Go.Proofs.YtgaabjmbnomimaaDoor
namespace Go.Proofs.YtgaabjmbnomimaaDoor
open Go Go.RowKit Go.Ev
set_option maxRecDepth 100000
theorem insert_room_run (w : World) (b d n sc i : Nat) (arr : Array Value) (t : TypeId) (hb : w.heap[b]? = some (.cells arr t (0, 0))) (hfit : d + sc * 3 <= arr.size) (hi : i < n) (hroom : n + 1 <= sc) (h63 : n < 9223372036854775806)
   (vb vo vc : Nat) (hva : vb ≠ b) (vs : List Value) (hvl : vs.length = 3) (hvs : ∀ j v, vs[j]? = some v -> w.cell? ⟨vb, vo + j, none⟩ = some v) (h1v : ∀ v ∈ vs, v.oneCell' = true)
   (h1a : ∀ v ∈ (arr.toList.drop (d + i * 3)).take ((n - i) * 3), v.oneCell' = true)
   (hov : ∀ lb cb, (callFunc 150 #[.slice (some ⟨vb, vo, none⟩) 1 vc, .slice (some ((⟨b, d, none⟩ : Addr).add ((i + 1) * 3))) lb cb]).run Tryd.prog w = .ok (.value (.bool false)) w) :
   Calls Tryd.prog 118 #[.slice (some ⟨b, d, none⟩) n sc, .int .i64 i, .slice (some ⟨vb, vo, none⟩) 1 vc] w fun e w' => e = .returned (.slice (some ⟨b, d, none⟩) (n + 1) sc) ∧
     ∃ arr1 arr2 : Array Value, arr1 = (arr.toList.take (d + (i + 1) * 3) ++ (arr.toList.drop (d + i * 3)).take ((n - i) * 3) ++ arr.toList.drop (d + (i + 1) * 3 + ((arr.toList.drop (d + i * 3)).take ((n - i) * 3)).length)).toArray ∧
       arr2 = (arr1.toList.take (d + i * 3) ++ vs ++ arr1.toList.drop (d + i * 3 + vs.length)).toArray /\ w' = (w.drew.setRow b arr1).setRow b arr2 := by
 have hsz : arr.toList.length = arr.size := by simp
 have hcl : ((arr.toList.drop (d + i * 3)).take ((n - i) * 3)).length = (n - i) * 3 := by rw [List.length_take, List.length_drop, hsz]; omega
 have hget : ∀ j v, ((arr.toList.drop (d + i * 3)).take ((n - i) * 3))[j]? = some v -> w.drew.cell? ((⟨b, d + i * 3, none⟩ : Addr).add j) = some v := fun j v hj => by
   rw [List.getElem?_take] at hj
   split at hj
   · rw [List.getElem?_drop, Array.getElem?_toList] at hj
     rw [Addr.add_lit]
     show w.cell? ⟨b, d + i * 3 + j, none⟩ = some v
     simp only [World.cell?, hb]
     exact hj
   · simp at hj
 have hcs := h1a
 generalize hcsd : (arr.toList.drop (d + i * 3)).take ((n - i) * 3) = cs at *
 have hlt : b < w.heap.size := (Array.getElem?_eq_some_iff.1 hb).1
 have c1 := fun ty dc xc => run_copy_rowK (P := Tryd.prog) w.drew 23 23 ty 31 3 b (d + (i + 1) * 3) (n - i) dc ⟨b, d + i * 3, none⟩ (n + 1 - i) xc arr t cs under23 size31 hb
   (by rw [hcl]; simp only [Nat.min_def]; split <;> omega) hget (by rw [hcl]; omega) hcs
 obtain ⟨arr1, harr1⟩ : ∃ a, a = (arr.toList.take (d + (i + 1) * 3) ++ cs ++ arr.toList.drop (d + (i + 1) * 3 + cs.length)).toArray := ⟨_, rfl⟩
 rw [<- harr1] at c1
 have hs1 : arr1.size = arr.size := by rw [harr1]; simp [hcl]; omega
 have hW : (w.drew.setRow b arr1).heap[b]? = some (.cells arr1 t (0, 0)) := setRow_heap w.drew b arr arr1 t (0, 0) hb
 have hcell : ∀ j v, vs[j]? = some v -> (w.drew.setRow b arr1).cell? ((⟨vb, vo, none⟩ : Addr).add j) = some v := fun j v hj => by
   rw [Addr.add_lit, cell_setRow_other w.drew b arr1 ⟨vb, vo + j, none⟩ hva]
   exact hvs j v hj
 have c2 := fun ty dc => run_copy_rowK (P := Tryd.prog) (w.drew.setRow b arr1) 23 23 ty 31 3 b (d + i * 3) (n + 1 - i) dc ⟨vb, vo, none⟩ 1 vc arr1 t vs under23 size31 hW
   (by rw [hvl]; simp only [Nat.min_def]; split <;> omega) hcell (by rw [hvl, hs1]; omega) h1v
 have m1 : Nat.min (n + 1 - i) (n - i) = n - i := by simp only [Nat.min_def]; split <;> omega
 have m2 : Nat.min 1 (n + 1 - i) = 1 := by simp only [Nat.min_def]; split <;> omega
 rw [m1] at c1
 rw [m2] at c2
 have h := insert_room w n i sc ⟨b, d, none⟩ hi (by omega) hroom h63 ⟨vb, vo, none⟩ vc _ _ hov (fun ty dc xc => by
   have e := c1 ty dc xc
   rw [show ((n - i : Nat) : Int) = (n : Int) - i by omega] at e
   rw [Addr.add_lit, Addr.add_lit]; exact e) (fun ty dc => by rw [Addr.add_lit]; exact c2 ty dc)
 refine h.mono ?_
 rintro e w' ⟨rfl, rfl⟩
 exact ⟨rfl, arr1, _, harr1, rfl, rfl⟩
end Go.Proofs.YtgaabjmbnomimaaDoor
namespace Go.Proofs.YtgaabjmbnomimaaDoor
open Go Go.RowKit Go.Ev
set_option maxRecDepth 100000
theorem insert_grow_run (w : World) (b d n i : Nat) (arr : Array Value) (t : TypeId) (hb : w.heap[b]? = some (.cells arr t (0, 0))) (hfit : d + n * 3 <= arr.size) (hi : i < n) (hbig : n < 4294967295)
   (i0 : TypeInfo) (z : Value) (hi0 : Tryd.prog.info? 31 = some i0) (hz : i0.zero = some z) (h3 : i0.size = 3) (hzs : z.cells.size = 3) (hby : i0.bytes <= 4096)
   (vb vo vc : Nat) (hvb : vb < w.heap.size) (vs : List Value) (hvl : vs.length = 3) (hvs : ∀ j v, vs[j]? = some v -> w.cell? ⟨vb, vo + j, none⟩ = some v) (h1v : ∀ v ∈ vs, v.oneCell' = true)
   (h1a : ∀ v ∈ (arr.toList.drop (d + i * 3)).take ((n - i) * 3), v.oneCell' = true) :
   Calls Tryd.prog 118 #[.slice (some ⟨b, d, none⟩) n n, .int .i64 i, .slice (some ⟨vb, vo, none⟩) 1 vc] w fun e w' => ∃ (G : Nat) (arr1 arr2 arr3 : Array Value), n + 1 <= G /\ arr1.size = G * 3 ∧
     arr1.toList.take (i * 3) = (arr.toList.drop d).take (i * 3) /\ arr2 = (arr1.toList.take (i * 3) ++ vs ++ arr1.toList.drop (i * 3 + vs.length)).toArray ∧
     arr3 = (arr2.toList.take ((i + 1) * 3) ++ (arr.toList.drop (d + i * 3)).take ((n - i) * 3) ++ arr2.toList.drop ((i + 1) * 3 + ((arr.toList.drop (d + i * 3)).take ((n - i) * 3)).length)).toArray ∧
     e = .returned (.slice (some ⟨w.heap.size, 0, none⟩) (n + 1) G) /\ w' = ((((w.drew.alloc (.cells arr1 31)).setRow w.heap.size arr2).drew).setRow w.heap.size arr3) := by
 have hsz : arr.toList.length = arr.size := by simp
 have hbl : b < w.heap.size := (Array.getElem?_eq_some_iff.1 hb).1
 have holen : ((arr.toList.drop d).take (i * 3)).length = i * 3 := by rw [List.length_take, List.length_drop, hsz]; omega
 have hold : (Builtin.firstCells i0.size i (.slice (some ⟨b, d, none⟩) i n)).run Tryd.prog w.drew = .ok ((arr.toList.drop d).take (i * 3)).toArray w.drew :=
   run_firstCells_some (P := Tryd.prog) w.drew i0.size i ⟨b, d, none⟩ i n _ (by rw [holen, h3]) (fun j v hj => by
     rw [List.getElem?_take] at hj
     split at hj
     · rw [List.getElem?_drop, Array.getElem?_toList] at hj
       rw [Addr.add_lit]
       show w.cell? ⟨b, d + j, none⟩ = some v
       simp only [World.cell?, hb]
       exact hj
     · simp at hj)
 have e1 : i + (n + 1 - i) = n + 1 := by omega
 have hrun := fun ty => Lib.run_append_grow_zeros (P := Tryd.prog) w 23 3 ty 31 i0 z .i64 .i64 under23 (by kernel_rfl) hi0 hz (some ⟨b, d, none⟩) i n _ hold (n + 1 - i) (by omega) (by omega) (by omega) (by omega)
   (by have : (n + 1 - i) * i0.bytes <= 4294967296 * 4096 := Nat.mul_le_mul (by omega) hby; omega) (by rw [e1]; exact grown_fit (by omega) (by omega) hby)
 rw [e1] at hrun
 have hG := grownCap_ge w (n + 1) n 31
 generalize grownCap w (n + 1) n 31 = G at *
 obtain ⟨arr1, harr1⟩ : ∃ a, a = ((arr.toList.drop d).take (i * 3)).toArray ++ Builtin.zeroCells z.cells (n + 1 - i) ++ Builtin.zeroCells z.cells (G - (n + 1)) := ⟨_, rfl⟩
 rw [<- harr1] at hrun
 have hs1 : arr1.size = G * 3 := by
   rw [harr1]; simp only [Array.size_append, size_zeroCells, hzs, List.size_toArray, holen]; omega
 have ht1 : arr1.toList.take (i * 3) = (arr.toList.drop d).take (i * 3) := by
   rw [harr1]; simp only [Array.toList_append, List.append_assoc]
   rw [List.take_append_of_le_length (by rw [holen]; exact Nat.le_refl _), List.take_of_length_le (by rw [holen]; exact Nat.le_refl _)]
 have hg1 : (w.drew.alloc (.cells arr1 31)).heap[w.heap.size]? = some (.cells arr1 31 (0, 0)) := Go.Ev.heap_alloc_new w.drew _
 have hold1 : ∀ c, c < w.heap.size -> (w.drew.alloc (.cells arr1 31)).heap[c]? = w.heap[c]? := fun c hc => by
   simp only [World.alloc]
   exact Array.getElem?_push_lt hc ▸ (Array.getElem?_eq_getElem hc).symm
 have hcl : ((arr.toList.drop (d + i * 3)).take ((n - i) * 3)).length = (n - i) * 3 := by rw [List.length_take, List.length_drop, hsz]; omega
 have hget : ∀ j v, ((arr.toList.drop (d + i * 3)).take ((n - i) * 3))[j]? = some v -> w.cell? ⟨b, d + i * 3 + j, none⟩ = some v := fun j v hj => by
   rw [List.getElem?_take] at hj
   split at hj
   · rw [List.getElem?_drop, Array.getElem?_toList] at hj
     simp only [World.cell?, hb]
     exact hj
   · simp at hj
 generalize hcsd : (arr.toList.drop (d + i * 3)).take ((n - i) * 3) = cs at *
 obtain ⟨g, hg⟩ : ∃ g, g = w.heap.size := ⟨_, rfl⟩
 obtain ⟨w1, hw1⟩ : ∃ w1, w1 = w.drew.alloc (.cells arr1 31) := ⟨_, rfl⟩
 rw [<- hw1] at hrun hg1 hold1
 have hcell1 : ∀ c o v, c < w.heap.size -> w.cell? ⟨c, o, none⟩ = some v -> w1.cell? ⟨c, o, none⟩ = some v := fun c o v hc h => by
   simp only [World.cell?] at h ⊢
   rw [hold1 c hc]; exact h
 have c1 := fun ty dc => run_copy_rowK (P := Tryd.prog) w1 23 23 ty 31 3 w.heap.size (i * 3) (n + 1 - i) dc ⟨vb, vo, none⟩ 1 vc arr1 31 vs under23 size31 hg1
   (by rw [hvl]; simp only [Nat.min_def]; split <;> omega) (fun j v hj => by rw [Addr.add_lit]; exact hcell1 _ _ _ hvb (hvs j v hj)) (by rw [hvl, hs1]; omega) h1v
 have m1 : Nat.min 1 (n + 1 - i) = 1 := by simp only [Nat.min_def]; split <;> omega
 rw [m1] at c1
 obtain ⟨arr2, harr2⟩ : ∃ a, a = (arr1.toList.take (i * 3) ++ vs ++ arr1.toList.drop (i * 3 + vs.length)).toArray := ⟨_, rfl⟩
 rw [<- harr2] at c1
 have hs2 : arr2.size = G * 3 := by rw [harr2]; simp [hvl, hs1]; omega
 have hg2 : (w1.setRow w.heap.size arr2).drew.heap[w.heap.size]? = some (.cells arr2 31 (0, 0)) := setRow_heap w1 w.heap.size arr1 arr2 31 (0, 0) hg1
 have c2 := fun ty dc xc => run_copy_rowK (P := Tryd.prog) (w1.setRow w.heap.size arr2).drew 23 23 ty 31 3 w.heap.size ((i + 1) * 3) (n - i) dc ⟨b, d + i * 3, none⟩ (n - i) xc arr2 31 cs under23 size31 hg2
   (by rw [hcl]; simp) (fun j v hj => by
     rw [Addr.add_lit]
     show (w1.setRow w.heap.size arr2).cell? ⟨b, d + i * 3 + j, none⟩ = some v
     rw [cell_setRow_other w1 w.heap.size arr2 ⟨b, d + i * 3 + j, none⟩ (by show b ≠ w.heap.size; omega)]
     exact hcell1 _ _ _ hbl (hget j v hj)) (by rw [hcl, hs2]; omega) h1a
 have m2 : Nat.min (n - i) (n - i) = n - i := by simp
 rw [m2] at c2
 have h := insert_grow w n i n ⟨b, d, none⟩ hi (Nat.le_refl _) (by omega) (by omega) ⟨vb, vo, none⟩ vc w.heap.size G hG w1 _ _ hrun (fun ty dc => c1 ty dc) (fun ty dc xc => by
   have e := c2 ty dc xc
   rw [show ((n - i : Nat) : Int) = (n : Int) - i by omega] at e
   rw [Addr.add_lit]; exact e)
 refine h.mono ?_
 rintro e w' ⟨rfl, rfl⟩
 exact ⟨G, arr1, arr2, _, hG, hs1, ht1, harr2, rfl, rfl, by rw [hw1]⟩
end Go.Proofs.YtgaabjmbnomimaaDoor
namespace Go.Proofs.YtgaabjmbnomimaaDoor
open Go Go.RowKit Go.Ev
set_option maxRecDepth 100000
theorem run_clearK {P : Program} (w : World) (t e ty : TypeId) (z : Value) (ht : P.underlying t = some (.slice e)) (hv : ∀ w, (zeroValue e).run P w = .ok z w) (b o n c : Nat) (hn : 0 < n) (zs : List Value) (hzs : zs = (Builtin.zeroCells z.cells n).toList) (h1 : ∀ v ∈ zs, v.oneCell' = true)
   (hc : ∀ j, j < zs.length -> (w.cell? ⟨b, o + j, none⟩).isSome = true) (hf : ∀ j, j < zs.length -> w.frozen? ⟨b, o + j, none⟩ = false) :
   (Builtin.clear_ #[t] ty #[.slice (some ⟨b, o, none⟩) n c]).run P w = .ok (.tuple #[]) (w.setCells b o zs) := by
 have hst := run_storeCells_cells (P := P) b o zs 0 w (by simpa using hc) (by simpa using hf) h1
 simp only [Nat.add_zero] at hst
 obtain ⟨m, rfl⟩ : ∃ m, n = m + 1 := ⟨n - 1, by omega⟩
 simp [Builtin.clear_, run_underlying ht, hv, <- hzs, hst]
theorem delete_one_run (w : World) (b d n sc i : Nat) (arr : Array Value) (t : TypeId) (hb : w.heap[b]? = some (.cells arr t (0, 0))) (hfit : d + sc * 3 <= arr.size) (hi : i < n) (hn : n <= sc) (h63 : n < 9223372036854775806)
   (i0 : TypeInfo) (hi0 : Tryd.prog.info? 31 = some i0) (h3 : i0.size = 3) (z : Value) (hv : ∀ w, (zeroValue 31).run Tryd.prog w = .ok z w) (zs : List Value) (hzs : zs = (Builtin.zeroCells z.cells 1).toList) (hzl : zs.length = 3) (h1z : ∀ v ∈ zs, v.oneCell' = true)
   (h1a : ∀ v ∈ (arr.toList.drop (d + (i + 1) * 3)).take ((n - (i + 1)) * 3), v.oneCell' = true) :
   Calls Tryd.prog 122 #[.slice (some ⟨b, d, none⟩) n sc, .int .i64 i, .int .i64 ((i + 1 : Nat) : Int)] w fun e w' => e = .returned (.slice (some ⟨b, d, none⟩) (n - 1) sc) ∧
     w' = (w.drew.setCells b (d + i * 3) ((arr.toList.drop (d + (i + 1) * 3)).take ((n - (i + 1)) * 3))).setCells b (d + (n - 1) * 3) zs := by
 have hsz : arr.toList.length = arr.size := by simp
 have hcl : ((arr.toList.drop (d + (i + 1) * 3)).take ((n - (i + 1)) * 3)).length = (n - (i + 1)) * 3 := by rw [List.length_take, List.length_drop, hsz]; omega
 have hget : ∀ j v, ((arr.toList.drop (d + (i + 1) * 3)).take ((n - (i + 1)) * 3))[j]? = some v -> w.cell? ⟨b, d + (i + 1) * 3 + j, none⟩ = some v := fun j v hj => by
   rw [List.getElem?_take] at hj
   split at hj
   · rw [List.getElem?_drop, Array.getElem?_toList] at hj
     simp only [World.cell?, hb]
     exact hj
   · simp at hj
 generalize hcsd : (arr.toList.drop (d + (i + 1) * 3)).take ((n - (i + 1)) * 3) = cs at *
 have hc0 : ∀ k, k < arr.size -> (w.cell? ⟨b, k, none⟩).isSome = true := fun k hk => by
   simp only [World.cell?, hb]
   rw [Array.getElem?_eq_getElem hk]; rfl
 have hf0 : ∀ k, w.frozen? ⟨b, k, none⟩ = false := fun k => by simp [World.frozen?, hb]
 have hsrc : ∀ A : Option Addr, A = (if sc = i + 1 then some ⟨b, d, none⟩ else some ((⟨b, d, none⟩ : Addr).add ((i + 1) * 3))) -> Src Tryd.prog i0.size 23 (.slice A (n - (i + 1)) (sc - (i + 1))) (n - (i + 1)) cs w.drew := fun A hA => by
   subst hA
   split
   · rename_i h
     have h0 : cs.length = 0 := by rw [hcl]; omega
     refine Src.ofSlice w.drew under23 _ _ _ cs (by rw [hcl, h3]) (fun j u hj => ?_) h1a
     have := (List.getElem?_eq_some_iff.1 hj).1
     omega
   · refine Src.ofSlice w.drew under23 _ _ _ cs (by rw [hcl, h3]) (fun j u hj => ?_) h1a
     rw [Addr.add_lit, Addr.add_lit]
     exact hget j u hj
 have hrun := fun ty => run_append_room_src (P := Tryd.prog) w.drew 23 23 ty 31 i0 under23 hi0 b d i sc _ (n - (i + 1)) cs (hsrc _ rfl) (by omega)
   (fun j hj => by rw [h3]; exact hc0 _ (by rw [hcl] at hj; omega)) (fun j hj => by rw [h3]; exact hf0 _)
 rw [show i + (n - (i + 1)) = n - 1 by omega, h3] at hrun
 obtain ⟨w1, hw1⟩ : ∃ w1, w1 = w.drew.setCells b (d + i * 3) cs := ⟨_, rfl⟩
 rw [<- hw1] at hrun
 have hclr := fun ty dc => run_clearK (P := Tryd.prog) w1 23 31 ty z under23 hv b (d + (n - 1) * 3) 1 dc (by omega) zs hzs h1z
   (fun j hj => by
     rw [hw1]
     exact Go.Proofs.isSome_setCells b cs (d + i * 3) w.drew (fun k hk => hc0 _ (by rw [hcl] at hk; omega)) _ (hc0 _ (by rw [hzl] at hj; omega)))
   (fun j hj => by rw [hw1, World.frozen?_setCells]; exact hf0 _)
 have h := delete_one w n i sc ⟨b, d, none⟩ hi hn h63 w1 _ (.tuple #[]) hrun (fun ty dc => by rw [Addr.add_lit]; exact hclr ty dc)
 refine h.mono ?_
 rintro e w' ⟨rfl, rfl⟩
 exact ⟨rfl, by rw [hw1]⟩
end Go.Proofs.YtgaabjmbnomimaaDoor
namespace Go.Proofs.YtgaabjmbnomimaaDoor
open Go Go.RowKit Go.Ev
set_option maxRecDepth 100000
def x122 : List V -> Hp -> Option (List V × Hp) := fun a h => match a, h with
 | [.buf 0 ep 0 len, .c (.int .i64 i), .c (.int .i64 j)], [.mem 3 e xs] => if ep = e /\ len = xs.length /\ 0 <= i /\ i < (len : Int) /\ j = i + 1 /\ len < 4294967296 then some ([.buf 0 (ep + 1) 0 (len - 1)], [.mem 3 (ep + 1) (xs.take i.toNat ++ xs.drop (i.toNat + 1))]) else none
 | _, _ => none
theorem sound122 {K : World -> Prop} {args vals : List V} {H H' : Hp} (h : x122 args H = some (vals, H')) : Enter Tryd.prog 122 /\ Sound Tryd.prog K 122 args H vals H' := by
 unfold x122 at h
 split at h
 case h_2 => simp at h
 rename_i ep len i j e xs
 split at h <;> simp only [Option.some.injEq, Prod.mk.injEq, reduceCtorEq] at h
 rename_i hc
 obtain ⟨rfl, rfl, hi0, hi1, rfl, hlt⟩ := hc
 obtain ⟨rfl, rfl⟩ := h
 obtain ⟨i, rfl⟩ : ∃ m : Nat, i = (m : Int) := ⟨i.toNat, by omega⟩
 have hi : i < xs.length := by omega
 refine ⟨fun args w => ?_, fun w A bl us hcx hH hargs => ?_⟩
 · simp only [callFunc, Sem.run_bind, run_program, Result.andThen_ok, Tryd.func122]
   rfl
 obtain ⟨hl, hr⟩ := hargs
 match us, hl, hr with
 | [u, v, v2], _, hr =>
   have hv : v = .int .i64 (i : Int) := by
     have := hr 1 _ v rfl rfl
     cases this with | c _ _ h => cases h; rfl
   have hv2 : v2 = .int .i64 ((i + 1 : Nat) : Int) := by
     have := hr 2 _ v2 rfl rfl
     cases this with | c _ _ h => cases h; rfl
   subst hv; subst hv2
   have hu := hr 0 _ u rfl rfl
   cases hu with
   | buf _ _ _ _ a l cap k1 k2 k9003 =>
     obtain ⟨j1, rfl, ⟨j2, j3, j4⟩, j5⟩ := k9003 3 xs rfl
     obtain ⟨b, d, n, h1, rfl, h3, h4⟩ := j5 (by omega)
     obtain ⟨o1, o2, o3⟩ := hH.obj 0 _ rfl
     obtain ⟨arr, t, g1, g2, g9003⟩ := o3 b d h1
     have hn : n = arr.size := by simp only [rowOf, g1, Option.some.injEq] at h3; exact h3.symm
     subst hn
     obtain ⟨i0, dd, hti⟩ := tyOf_is (P := Tryd.prog) ty31
     obtain ⟨z, hz1, hz2, hz3⟩ := zero_of (w := w) (A := A) (bl := bl) (H := []) hti rfl
     have h3s : i0.size = 3 := hti.size.symm
     have hzs : z.cells.size = 3 := by simpa using hz3
     have hzl : (Builtin.zeroCells z.cells 1).toList.length = 3 := by
       rw [Array.length_toList, size_zeroCells, hzs]
     have hone : ∀ p, p < xs.length * 3 -> ∃ v, arr[d + p]? = some v /\ v.oneCell' = true := fun p hp => by
       have hk : p / 3 < xs.length := by omega
       have hlen := o1 xs[p / 3] (List.getElem_mem hk)
       obtain ⟨u, u1, u2⟩ := g9003 (p / 3) (p % 3) xs[p / 3] (xs[p / 3][p % 3]'(by omega)) (List.getElem?_eq_getElem hk) (List.getElem?_eq_getElem _)
       exact ⟨u, by rw [<- u1]; congr 1; omega, repC_one u2⟩
     have hfit : d + cap * 3 <= arr.size := by omega
     have hW := delete_one_run w b (d + 0 * 3) xs.length cap i arr t g1 (by omega) hi (by omega) (by omega) i0 hti.info h3s z (run_zeroValue hti.info hz1) _ rfl hzl
       (fun v hv => by
         obtain ⟨q, hq⟩ := List.getElem?_of_mem hv
         simp only [Builtin.zeroCells] at hq
         rw [Array.getElem?_toList] at hq
         have hq' : ∃ p : Nat, z.cells.toList[p]? = some v := by
           simp at hq
           obtain ⟨q2, _, rfl⟩ := hq
           have hp : q2 % z.cells.size < z.cells.size := Nat.mod_lt _ (by omega)
           exact ⟨q2 % z.cells.size, by rw [Array.getElem?_toList, Array.getElem?_eq_getElem hp, getElem!_pos z.cells _ hp]⟩
         obtain ⟨p, hp⟩ := hq'
         have hpl : p < 3 := by have := (List.getElem?_eq_some_iff.1 hp).1; simpa [hzs] using this
         obtain ⟨hzl2, hzr⟩ := hz2
         have hx := hzr p _ v (List.getElem?_eq_getElem (by simpa using hpl)) hp
         rw [List.getElem_map] at hx
         cases hx with
         | c _ _ hc => exact repC_one hc) (fun v hv => by
         obtain ⟨q, hq⟩ := List.getElem?_of_mem hv
         rw [List.getElem?_take] at hq
         split at hq
         · rename_i hq2
           rw [List.getElem?_drop, Array.getElem?_toList] at hq
           obtain ⟨v', v1, v2⟩ := hone ((i + 1) * 3 + q) (by omega)
           rw [show d + 0 * 3 + (i + 1) * 3 + q = d + ((i + 1) * 3 + q) by omega, v1] at hq
           rw [<- Option.some.inj hq]; exact v2
         · simp at hq)
     refine Calls.mono hW ?_
     rintro e w' ⟨rfl, hw'⟩
     have hAl : arr.toList.length = arr.size := Array.length_toList
     have hcsl : ((arr.toList.drop (d + 0 * 3 + (i + 1) * 3)).take ((xs.length - (i + 1)) * 3)).length = (xs.length - (i + 1)) * 3 := by
       rw [List.length_take, List.length_drop, hAl]; omega
     have hcg : ∀ p, p < (xs.length - (i + 1)) * 3 -> ((arr.toList.drop (d + 0 * 3 + (i + 1) * 3)).take ((xs.length - (i + 1)) * 3))[p]? = arr[d + (i + 1) * 3 + p]? := fun p hp => by
       rw [List.getElem?_take, if_pos hp, List.getElem?_drop, Array.getElem?_toList]
       congr 1
     generalize (arr.toList.drop (d + 0 * 3 + (i + 1) * 3)).take ((xs.length - (i + 1)) * 3) = cs at *
     generalize (Builtin.zeroCells z.cells 1).toList = zs at *
     obtain ⟨s1, s2, s9003, s9004, s9005, s9006⟩ := setCells_spec cs (d + 0 * 3 + i * 3) w.drew arr g1 (by omega)
     obtain ⟨r1, r2, r3, r4, r5, r6⟩ := setCells_spec zs (d + 0 * 3 + (xs.length - 1) * 3) _ _ s1 (by
       simp only [List.size_toArray]; rw [splice_len (by rw [hAl]; omega), hAl]; omega)
     rw [<- hw'] at r1 r2 r3 r4 r5 r6
     have hbn : d + 0 * 3 = d := by omega
     obtain ⟨b1, b2, b9003⟩ := rep_move (w' := w') (xs' := xs.take i ++ xs.drop (i + 1)) hH (i0 := 0) (z := 3) (e := ep) (xs := xs) rfl (x := some (b, d)) (fun b' d' hb => by
         simp only [Option.some.injEq, Prod.mk.injEq] at hb; exact .inl ⟨d, by rw [<- hb.1]; exact h1⟩) (by rw [r6, s9006]; exact Nat.le_refl _) (r3.trans s9003) (r4.trans s9004) (r5.trans s9005)
       (fun b' hb hn => (r2 b' fun e => hn d (e ▸ h1)).trans (s2 b' fun e => hn d (e ▸ h1))) (fun hle => by
         refine ⟨fun cs' hcs' => ?_, fun hn => by rw [upd_same] at hn; simp at hn, fun b' d' hb => ?_⟩
         · rcases List.mem_append.1 hcs' with h | h
           · exact o1 _ (List.mem_of_mem_take h)
           · exact o1 _ (List.mem_of_mem_drop h)
         rw [upd_same] at hb
         simp only [Option.some.injEq, Prod.mk.injEq] at hb
         obtain ⟨rfl, rfl⟩ := hb
         refine ⟨_, t, r1, ?_, fun k j cs' c hk hj => ?_⟩
         · simp only [List.size_toArray]
           rw [splice_len (by rw [splice_len (by rw [hAl]; omega), hAl]; omega), splice_len (by rw [hAl]; omega), hAl]
           simp only [List.length_append, List.length_take, List.length_drop]; omega
         · have hkl := (List.getElem?_eq_some_iff.1 hk).1
           simp only [List.length_append, List.length_take, List.length_drop] at hkl
           have hjz : j < 3 := by
             have hm : cs'.length = 3 := by
               rcases List.mem_append.1 (List.mem_of_getElem? hk) with h | h
               · exact o1 _ (List.mem_of_mem_take h)
               · exact o1 _ (List.mem_of_mem_drop h)
             have := (List.getElem?_eq_some_iff.1 hj).1; omega
           simp only [List.getElem?_toArray]
           rw [splice_get (by rw [splice_len (by rw [hAl]; omega), hAl]; omega), if_neg (by omega), splice_get (by rw [hAl]; omega)]
           by_cases hki : k < i
           · rw [List.getElem?_append_left (by simp; omega), List.getElem?_take, if_pos hki] at hk
             rw [if_neg (by omega)]
             obtain ⟨u, u1, u2⟩ := g9003 k j cs' c hk hj
             exact ⟨u, by rw [Array.getElem?_toList]; exact u1, u2.mono hle.C hle.A⟩
           · rw [List.getElem?_append_right (by simp; omega), List.getElem?_drop] at hk
             have e0 : i + 1 + (k - (xs.take i).length) = k + 1 := by rw [List.length_take]; omega
             rw [e0] at hk
             rw [if_pos (by omega)]
             obtain ⟨u, u1, u2⟩ := g9003 (k + 1) j cs' c hk hj
             refine ⟨u, ?_, u2.mono hle.C hle.A⟩
             rw [hcg _ (by omega), <- u1]; congr 1; omega)
     refine ⟨A, _, [_], rfl, ⟨rfl, fun j x u hj hu => ?_⟩, b1, b2, b9003⟩
     cases j with
     | zero =>
       simp only [List.getElem?_cons_zero, Option.some.injEq] at hj hu
       subst hj; subst hu
       refine .buf _ _ _ _ _ _ _ (by simp) (fun z e xs h => by simp at h; omega) fun z' xs' h' => ?_
       simp at h'
       obtain ⟨rfl, rfl⟩ := h'
       refine ⟨by simp; omega, rfl, ⟨by omega, fun _ a0 h => (by simp only [Option.some.injEq] at h; subst h; rfl), fun h => (by simp at h)⟩, fun _ => ⟨b, d, arr.size, upd_same, by simp, ?_, by omega⟩⟩
       simp only [rowOf, r1, List.size_toArray, Option.some.injEq]
       rw [splice_len (by rw [splice_len (by rw [hAl]; omega), hAl]; omega), splice_len (by rw [hAl]; omega), hAl]
     | succ j => simp at hj
end Go.Proofs.YtgaabjmbnomimaaDoor
namespace Go.Proofs.YtgaabjmbnomimaaDoor
open Go Go.RowKit Go.Ev
set_option maxRecDepth 100000
def x118s : List V -> Hp -> Option (List V × Hp) := fun a h => match a, h with
 | [.buf 0 ep 0 len, .c (.int .i64 i), .buf 1 e2 0 1], [.mem 3 e xs, .mem 3 e3 [x]] => if ep = e /\ e2 = e3 /\ len = xs.length /\ 0 <= i /\ i <= (len : Int) /\ len < 4294967294 then some ([.buf 0 (ep + 1) 0 (len + 1)], [.mem 3 (ep + 1) (xs.take i.toNat ++ x :: xs.drop i.toNat), .mem 3 e3 [x]]) else none
 | _, _ => none
theorem row3_get {xs : List (List C)} {x : List C} {i k : Nat} (hi : i <= xs.length) : (xs.take i ++ x :: xs.drop i)[k]? = if k < i then xs[k]? else if k = i then some x else xs[k - 1]? := by
 by_cases h : k < i
 · rw [if_pos h, List.getElem?_append_left (by simp; omega), List.getElem?_take, if_pos h]
 · rw [if_neg h, List.getElem?_append_right (by simp; omega), List.length_take, Nat.min_eq_left hi]
   by_cases h2 : k = i
   · rw [if_pos h2, h2]; simp
   · rw [if_neg h2]
     obtain ⟨m, hm⟩ : ∃ m, k - i = m + 1 := ⟨k - i - 1, by omega⟩
     rw [hm, List.getElem?_cons_succ, List.getElem?_drop]
     congr 1; omega
set_option maxHeartbeats 1000000 in
theorem sound118s {K : World -> Prop} {args vals : List V} {H H' : Hp} (h : x118s args H = some (vals, H')) : Enter Tryd.prog 118 /\ Sound Tryd.prog K 118 args H vals H' := by
 refine ⟨fun args w => ?_, ?_⟩
 · simp only [callFunc, Sem.run_bind, run_program, Result.andThen_ok, Tryd.func118]
   rfl
 have hT : ∀ t y, T t = some y -> tyOf Tryd.prog t = some y := T_ok
 obtain ⟨i0, dd, hti⟩ := tyOf_is (P := Tryd.prog) ty31
 have h3s : i0.size = 3 := hti.size.symm
 have app : ∀ {w : World} {A : Nat -> Prop} {bl : Bl} {H : Hp} (hH : RepH w A bl H) {dst src v : V} {H' : Hp} {k : Nat} (h : appendV 3 H dst src = some (v, H', k)) {ud us : Value} (hd : RepV w A bl H dst ud) (hs : RepV w A bl H src us),
     ∃ r w', (Builtin.append_ #[23, 23] 23 #[ud, us]).run Tryd.prog w = .ok r w' /\ ∃ bl', RepV w' A bl' H' v r /\ RepH w' A bl' H' /\ Le w A bl H w' A bl' H' /\ Evo w A (Liv bl H) w' A (Liv bl' H') := fun {w A bl H} hH {dst src v H' k} h {ud us} hd hs =>
   appendV_run (ty := 23) hT hH (show T 23 = some _ from rfl) rfl (show T 31 = some _ from rfl) (by decide) rfl (.inl ⟨31, under23⟩) h hd hs
 unfold x118s at h
 split at h
 case h_2 => simp at h
 case h_1 =>
   rename_i ep len i e2 e xs e3 x
   split at h <;> simp only [Option.some.injEq, Prod.mk.injEq, reduceCtorEq] at h
   rename_i hc
   obtain ⟨rfl, rfl, rfl, hi0, hi1, hlt⟩ := hc
   obtain ⟨rfl, rfl⟩ := h
   obtain ⟨i, rfl⟩ : ∃ m : Nat, i = (m : Int) := ⟨i.toNat, by omega⟩
   intro w A bl us hcx hH hargs
   obtain ⟨hl, hr⟩ := hargs
   match us, hl, hr with
   | [u, v, v2], _, hr =>
     have hv : v = .int .i64 (i : Int) := by
       have := hr 1 _ v rfl rfl
       cases this with | c _ _ h => cases h; rfl
     subst hv
     have hu := hr 0 _ u rfl rfl
     have hv2 := hr 2 _ v2 rfl rfl
     by_cases hi : i < xs.length
     case neg =>
       obtain rfl : i = xs.length := by omega
       obtain ⟨r, w', h1, bl', h2, h3, h4, h5⟩ := app hH (k := 3) (v := .buf 0 (ep + 1) 0 (xs.length + 1)) (H' := [.mem 3 (ep + 1) (xs ++ [x]), .mem 3 e2 [x]]) (by
         have e1 : srcOf [.mem 3 ep xs, .mem 3 e2 [x]] 3 (.buf 1 e2 0 1) = some [x] := by simp [srcOf]
         unfold appendV
         rw [e1]
         simp only [List.getElem?_cons_zero, List.length_singleton]
         rw [if_pos ⟨by simp, by simp, by omega⟩]
         simp) hu hv2
       cases hu with
       | buf _ _ _ _ a l cap k1 k2 k3 =>
         obtain ⟨j1, rfl, ⟨j2, j3, j4⟩, j5⟩ := k3 3 xs rfl
         cases hv2 with
         | buf _ _ _ _ a' l' cap' m1 m2 m3 =>
           obtain ⟨n1, rfl, ⟨n2, n3, n4⟩, n5⟩ := m3 3 [x] rfl
           obtain ⟨vb, vd, vn, q1, rfl, q3, q4⟩ := n5 (by omega)
           have e0 : xs.take ((xs.length : Int).toNat) ++ x :: xs.drop ((xs.length : Int).toNat) = xs ++ [x] := by simp
           rw [e0]
           refine Calls.mono (insert_end w xs.length r w' cap a j2 j4 _ cap' h1) ?_
           rintro e w'' ⟨rfl, rfl⟩
           refine ⟨A, bl', [r], rfl, ⟨rfl, fun j x u hj hu => ?_⟩, ?_, ?_, ?_⟩
           · cases j with
             | zero =>
               simp only [List.getElem?_cons_zero, Option.some.injEq] at hj hu
               subst hj; subst hu; exact h2
             | succ j => simp at hj
           all_goals simpa using ‹_›
     case pos =>
     cases hu with
     | buf _ _ _ _ a l cap k1 k2 k3 =>
       obtain ⟨j1, rfl, ⟨j2, j3, j4⟩, j5⟩ := k3 3 xs rfl
       cases hv2 with
       | buf _ _ _ _ a' l' cap' m1 m2 m3 =>
         obtain ⟨n1, rfl, ⟨n2, n3, n4⟩, n5⟩ := m3 3 [x] rfl
         obtain ⟨vb, vd, vn, q1, rfl, q3, q4⟩ := n5 (by omega)
         obtain ⟨b, d, n, h1, rfl, h3, h4⟩ := j5 (by omega)
         have hvb : vb ≠ b := fun e => hH.inj 1 0 vb vd d (by decide) ⟨_, rfl, rfl⟩ ⟨_, rfl, rfl⟩ q1 (e ▸ h1)
         obtain ⟨o1, o2, o3⟩ := hH.obj 0 _ rfl
         obtain ⟨arr, t, g1, g2, g3⟩ := o3 b d h1
         obtain ⟨p1, p2, p3⟩ := hH.obj 1 _ rfl
         obtain ⟨arv, tv, r1, r2, r3⟩ := p3 vb vd q1
         have hn : n = arr.size := by simp only [rowOf, g1, Option.some.injEq] at h3; exact h3.symm
         subst hn
         have hxl : x.length = 3 := p1 x (by simp)
         have hvlt : vb < w.heap.size := (hH.lt 1 vb vd ⟨_, rfl, rfl⟩ q1).1
         have hAl : arr.toList.length = arr.size := Array.length_toList
         simp only [List.length_singleton, Nat.one_mul] at r2
         obtain ⟨vs, hvs⟩ : ∃ vs, vs = (arv.toList.drop (vd + 0 * 3)).take 3 := ⟨_, rfl⟩
         have hvl : vs.length = 3 := by rw [hvs, List.length_take, List.length_drop, Array.length_toList]; omega
         have hvg : ∀ j, j < 3 -> vs[j]? = arv[vd + j]? := fun j hj => by
           rw [hvs, List.getElem?_take, if_pos hj, List.getElem?_drop, Array.getElem?_toList]; congr 1
         have hvr : ∀ j (c : C), x[j]? = some c -> ∃ u, vs[j]? = some u /\ RepC w A c u := fun j c hj => by
           obtain ⟨u, u1, u2⟩ := r3 0 j x c rfl hj
           have hj3 : j < 3 := by have := (List.getElem?_eq_some_iff.1 hj).1; omega
           exact ⟨u, by rw [hvg j hj3, <- u1]; first | rfl | (congr 1; omega), u2⟩
         have hvc : ∀ j v, vs[j]? = some v -> w.cell? ⟨vb, vd + 0 * 3 + j, none⟩ = some v := fun j v hj => by
           have hj3 : j < 3 := by have := (List.getElem?_eq_some_iff.1 hj).1; omega
           rw [hvg j hj3] at hj
           simp only [World.cell?, r1, Nat.zero_mul, Nat.add_zero]; exact hj
         have h1v : ∀ v ∈ vs, v.oneCell' = true := fun v hv => by
           obtain ⟨j, hj⟩ := List.getElem?_of_mem hv
           have hj3 : j < 3 := by have := (List.getElem?_eq_some_iff.1 hj).1; omega
           obtain ⟨u, u1, u2⟩ := hvr j x[j] (List.getElem?_eq_getElem (by omega))
           rw [u1] at hj; rw [<- Option.some.inj hj]; exact repC_one u2
         have hone : ∀ p, p < xs.length * 3 -> ∃ v, arr[d + p]? = some v /\ v.oneCell' = true := fun p hp => by
           have hk : p / 3 < xs.length := by omega
           have hlen := o1 xs[p / 3] (List.getElem_mem hk)
           obtain ⟨u, u1, u2⟩ := g3 (p / 3) (p % 3) xs[p / 3] (xs[p / 3][p % 3]'(by omega)) (List.getElem?_eq_getElem hk) (List.getElem?_eq_getElem _)
           exact ⟨u, by rw [<- u1]; congr 1; omega, repC_one u2⟩
         have h1a : ∀ v ∈ (arr.toList.drop (d + 0 * 3 + i * 3)).take ((xs.length - i) * 3), v.oneCell' = true := fun v hv => by
           obtain ⟨q, hq⟩ := List.getElem?_of_mem hv
           rw [List.getElem?_take] at hq
           split at hq
           · rename_i hq2
             rw [List.getElem?_drop, Array.getElem?_toList] at hq
             obtain ⟨v', v1, v2⟩ := hone (i * 3 + q) (by omega)
             rw [show d + 0 * 3 + i * 3 + q = d + (i * 3 + q) by omega, v1] at hq
             rw [<- Option.some.inj hq]; exact v2
           · simp at hq
         have hcsl : ((arr.toList.drop (d + 0 * 3 + i * 3)).take ((xs.length - i) * 3)).length = (xs.length - i) * 3 := by
           rw [List.length_take, List.length_drop, hAl]; omega
         have hcg : ∀ p, p < (xs.length - i) * 3 -> ((arr.toList.drop (d + 0 * 3 + i * 3)).take ((xs.length - i) * 3))[p]? = arr[d + i * 3 + p]? := fun p hp => by
           rw [List.getElem?_take, if_pos hp, List.getElem?_drop, Array.getElem?_toList]
           congr 1
         have hfit : d + cap * 3 <= arr.size := by omega
         have hlens : ∀ cs' ∈ xs.take i ++ x :: xs.drop i, cs'.length = 3 := fun cs' h => by
           rcases List.mem_append.1 h with h | h
           · exact o1 _ (List.mem_of_mem_take h)
           · rcases List.mem_cons.1 h with rfl | h
             · exact hxl
             · exact o1 _ (List.mem_of_mem_drop h)
         have hnl : (xs.take i ++ x :: xs.drop i).length = xs.length + 1 := by simp; omega
         -- the cells of the new row, wherever they lie
         have cells : ∀ {w' : World} {A' : Nat -> Prop} (hC : ∀ b, A b -> w'.heap[b]? = w.heap[b]?) (hA : ∀ b, A b -> A' b) (get : Nat -> Option Value),
             (∀ p, p < i * 3 -> get p = arr[d + p]?) -> (∀ p, p < 3 -> get (i * 3 + p) = vs[p]?) -> (∀ p, p < (xs.length - i) * 3 -> get ((i + 1) * 3 + p) = arr[d + i * 3 + p]?) →
             ∀ (k j : Nat) (cs : List C) (c : C), (xs.take i ++ x :: xs.drop i)[k]? = some cs -> cs[j]? = some c -> ∃ u, get (k * 3 + j) = some u /\ RepC w' A' c u := by
           intro w' A' hC hA get f1 f2 f3 k j cs c hk hj
           have hj3 : j < 3 := by have := (List.getElem?_eq_some_iff.1 hj).1; rw [hlens cs (List.mem_of_getElem? hk)] at this; exact this
           have hkl := (List.getElem?_eq_some_iff.1 hk).1
           rw [hnl] at hkl
           rw [row3_get (by omega)] at hk
           by_cases c1 : k < i
           · rw [if_pos c1] at hk
             obtain ⟨u, u1, u2⟩ := g3 k j cs c hk hj
             exact ⟨u, by rw [f1 _ (by omega), <- u1]; congr 1; omega, u2.mono hC hA⟩
           · rw [if_neg c1] at hk
             by_cases c2 : k = i
             · rw [if_pos c2] at hk
               obtain rfl := Option.some.inj hk
               obtain ⟨u, u1, u2⟩ := hvr j c hj
               exact ⟨u, by rw [c2, f2 _ hj3]; exact u1, u2.mono hC hA⟩
             · rw [if_neg c2] at hk
               obtain ⟨u, u1, u2⟩ := g3 (k - 1) j cs c hk hj
               refine ⟨u, ?_, u2.mono hC hA⟩
               rw [show k * 3 + j = (i + 1) * 3 + ((k - (i + 1)) * 3 + j) by omega, f3 _ (by omega), <- u1]; congr 1; omega
         generalize hcs : (arr.toList.drop (d + 0 * 3 + i * 3)).take ((xs.length - i) * 3) = cs at *
         by_cases hroom : xs.length + 1 <= cap
         · -- room
           have hov : ∀ lb cb, (callFunc 150 #[.slice (some ⟨vb, vd + 0 * 3, none⟩) 1 cap', .slice (some ((⟨b, d + 0 * 3, none⟩ : Addr).add ((i + 1) * 3))) lb cb]).run Tryd.prog w = .ok (.value (.bool false)) w := fun lb cb => by
             rw [run_callFunc_extern Tryd.func150 (by kernel_rfl) (by kernel_rfl) (by kernel_rfl) (e := Extern.SlicesOverlaps.overlaps #[23, 23] #[4]) (by kernel_rfl), Addr.add_lit,
               Lib.run_overlaps_apart w 23 4 31 under23 3 (fun w => by rw [<- h3s]; exact Go.Ev.run_sizeOf hti.info w) ⟨vb, vd + 0 * 3, none⟩ ⟨b, d + 0 * 3 + (i + 1) * 3, none⟩ 1 cap' lb cb hvb tv t arv.size arr.size
                 (by simp [World.shape?, r1]) (by simp [World.shape?, g1]) (by omega) (by simp [World.frozen?, r1]) (by simp [World.frozen?, r1])]
             rfl
           have hW := insert_room_run w b (d + 0 * 3) xs.length cap i arr t g1 (by omega) hi hroom (by omega) vb (vd + 0 * 3) cap' hvb vs hvl hvc h1v (by rw [hcs]; exact h1a) hov
           refine Calls.mono hW ?_
           rintro e w' ⟨rfl, arr1, arr2, e1, e2', rfl⟩
           rw [hcs] at e1
           have s1 : (w.drew.setRow b arr1).heap[b]? = some (.cells arr1 t (0, 0)) := setRow_heap w.drew b arr arr1 t (0, 0) g1
           have hs1 : arr1.size = arr.size := by rw [e1]; simp [hcsl]; omega
           have hs2 : arr2.size = arr.size := by rw [e2']; simp [hvl]; omega
           have s2 : ((w.drew.setRow b arr1).setRow b arr2).heap[b]? = some (.cells arr2 t (0, 0)) := setRow_heap _ b arr1 arr2 t (0, 0) s1
           have hget : ∀ p, arr2[p]? = if d + i * 3 <= p /\ p < d + i * 3 + 3 then vs[p - (d + i * 3)]? else if d + (i + 1) * 3 <= p /\ p < d + (i + 1) * 3 + (xs.length - i) * 3 then cs[p - (d + (i + 1) * 3)]? else arr[p]? := fun p => by
             have t1 : arr1.toList = splice arr.toList (d + 0 * 3 + (i + 1) * 3) cs := by rw [e1, splice, List.toList_toArray]
             have t2 : arr2 = (splice arr1.toList (d + 0 * 3 + i * 3) vs).toArray := by rw [e2', splice]
             rw [t2, List.getElem?_toArray, splice_get (by rw [hvl, Array.length_toList, hs1]; omega), t1, splice_get (by rw [hcsl, hAl]; omega), hvl, hcsl, show arr.toList[p]? = arr[p]? from Array.getElem?_toList, Nat.zero_mul, Nat.add_zero]
           have hoth : ∀ c, c ≠ b -> ((w.drew.setRow b arr1).setRow b arr2).heap[c]? = w.heap[c]? := fun c hc => by
             rw [setRow_other _ _ _ _ hc, setRow_other _ _ _ _ hc]; rfl
           obtain ⟨b1, b2, b3⟩ := rep_move (w' := (w.drew.setRow b arr1).setRow b arr2) (xs' := xs.take i ++ x :: xs.drop i) hH (i0 := 0) (z := 3) (e := ep) (xs := xs) rfl (x := some (b, d)) (fun b' d' hb => by
               simp only [Option.some.injEq, Prod.mk.injEq] at hb; exact .inl ⟨d, by rw [<- hb.1]; exact h1⟩) (by rw [size_setRow, size_setRow]; exact Nat.le_refl _) rfl rfl rfl
             (fun b' hb hn => hoth b' fun e => hn d (e ▸ h1)) (fun hle => by
               refine ⟨hlens, fun hn => by rw [upd_same] at hn; simp at hn, fun b' d' hb => ?_⟩
               rw [upd_same] at hb
               simp only [Option.some.injEq, Prod.mk.injEq] at hb
               obtain ⟨rfl, rfl⟩ := hb
               refine ⟨arr2, t, s2, by rw [hs2, hnl]; omega, fun k j cs' c hk hj => ?_⟩
               obtain ⟨u, u1, u2⟩ := cells hle.C hle.A (fun p => arr2[d + p]?) (fun p hp => by
                   show arr2[d + p]? = _
                   rw [hget, if_neg (by omega), if_neg (by omega)]) (fun p hp => by
                   show arr2[d + (i * 3 + p)]? = _
                   rw [hget, if_pos (by omega)]; congr 1; omega) (fun p hp => by
                   show arr2[d + ((i + 1) * 3 + p)]? = _
                   rw [hget, if_neg (by omega), if_pos (by omega), <- hcg p hp]; congr 1; omega) k j cs' c hk hj
               exact ⟨u, by rw [Nat.add_assoc]; exact u1, u2⟩)
           refine ⟨A, _, [_], rfl, ⟨rfl, fun j x u hj hu => ?_⟩, b1, b2, b3⟩
           cases j with
           | zero =>
             simp only [List.getElem?_cons_zero, Option.some.injEq] at hj hu
             subst hj; subst hu
             refine .buf _ _ _ _ _ _ _ (by simp) (fun z e xs h => by simp at h; omega) fun z' xs' h' => ?_
             simp at h'
             obtain ⟨rfl, rfl⟩ := h'
             refine ⟨by simp; omega, rfl, ⟨hroom, fun _ a0 h => (by simp only [Option.some.injEq] at h; subst h; rfl), fun h => (by simp at h)⟩, fun _ => ⟨b, d, arr2.size, upd_same, by simp, ?_, by rw [hs2]; omega⟩⟩
             simp only [rowOf, s2]
           | succ j => simp at hj
         · -- no room
           obtain rfl : cap = xs.length := by omega
           obtain ⟨z, hz1, hz2, hz3⟩ := zero_of (w := w) (A := A) (bl := bl) (H := []) hti rfl
           have hW := insert_grow_run w b (d + 0 * 3) xs.length i arr t g1 (by omega) hi (by omega) i0 z hti.info hz1 h3s (by simpa using hz3) (by rw [<- hti.bytes]; decide) vb (vd + 0 * 3) cap' hvlt vs hvl hvc h1v (by rw [hcs]; exact h1a)
           refine Calls.mono hW ?_
           rintro e w' ⟨G, arr1, arr2, arr3, f1, f2, f3, f4, f5, rfl, rfl⟩
           rw [hcs] at f5
           have hs2 : arr2.size = G * 3 := by rw [f4]; simp [hvl, f2]; omega
           have hs3 : arr3.size = G * 3 := by rw [f5]; simp [hcsl, hs2]; omega
           obtain ⟨g, hg⟩ : ∃ g, g = w.heap.size := ⟨_, rfl⟩
           have s1 : (w.drew.alloc (.cells arr1 31)).heap[g]? = some (.cells arr1 31 (0, 0)) := by rw [hg]; exact Go.Ev.heap_alloc_new w.drew _
           rw [<- hg]
           have s2 : ((w.drew.alloc (.cells arr1 31)).setRow g arr2).heap[g]? = some (.cells arr2 31 (0, 0)) := setRow_heap _ g arr1 arr2 31 (0, 0) s1
           have s3 : ((((w.drew.alloc (.cells arr1 31)).setRow g arr2).drew).setRow g arr3).heap[g]? = some (.cells arr3 31 (0, 0)) := setRow_heap _ g arr2 arr3 31 (0, 0) s2
           have hoth : ∀ c, c < w.heap.size -> ((((w.drew.alloc (.cells arr1 31)).setRow g arr2).drew).setRow g arr3).heap[c]? = w.heap[c]? := fun c hc => by
             have hne : c ≠ g := by omega
             rw [setRow_other _ _ _ _ hne]
             show ((w.drew.alloc (.cells arr1 31)).setRow g arr2).heap[c]? = _
             rw [setRow_other _ _ _ _ hne]
             simp only [World.alloc]
             exact Array.getElem?_push_lt hc ▸ (Array.getElem?_eq_getElem hc).symm
           have hget : ∀ p, arr3[p]? = if (i + 1) * 3 <= p /\ p < (i + 1) * 3 + (xs.length - i) * 3 then cs[p - (i + 1) * 3]? else if i * 3 <= p /\ p < i * 3 + 3 then vs[p - i * 3]? else arr1[p]? := fun p => by
             have t1 : arr2.toList = splice arr1.toList (i * 3) vs := by rw [f4, splice, List.toList_toArray]
             have t2 : arr3 = (splice arr2.toList ((i + 1) * 3) cs).toArray := by rw [f5, splice]
             rw [t2, List.getElem?_toArray, splice_get (by rw [hcsl, show arr2.toList.length = arr2.size from Array.length_toList, hs2]; omega), t1, splice_get (by rw [hvl, Array.length_toList, f2]; omega), hvl, hcsl, show arr1.toList[p]? = arr1[p]? from Array.getElem?_toList]
           have hsz : ((((w.drew.alloc (.cells arr1 31)).setRow g arr2).drew).setRow g arr3).heap.size = w.heap.size + 1 := by
             rw [size_setRow]
             show ((w.drew.alloc (.cells arr1 31)).setRow g arr2).heap.size = _
             rw [size_setRow, show (w.drew.alloc (.cells arr1 31)).heap.size = w.drew.heap.size + 1 from Array.size_push _]; rfl
           obtain ⟨b1, b2, b3⟩ := rep_move (w' := (((w.drew.alloc (.cells arr1 31)).setRow g arr2).drew).setRow g arr3) (xs' := xs.take i ++ x :: xs.drop i) hH (i0 := 0) (z := 3) (e := ep) (xs := xs) rfl (x := some (g, 0)) (fun b' d' hb => by
               simp only [Option.some.injEq, Prod.mk.injEq] at hb; exact .inr (by rw [hsz]; omega)) (by rw [hsz]; omega) rfl rfl rfl
             (fun b' hb _ => hoth b' hb) (fun hle => by
               refine ⟨hlens, fun hn => by rw [upd_same] at hn; simp at hn, fun b' d' hb => ?_⟩
               rw [upd_same] at hb
               simp only [Option.some.injEq, Prod.mk.injEq] at hb
               obtain ⟨rfl, rfl⟩ := hb
               refine ⟨arr3, 31, s3, by rw [hs3, hnl]; omega, fun k j cs' c hk hj => ?_⟩
               obtain ⟨u, u1, u2⟩ := cells hle.C hle.A (fun p => arr3[p]?) (fun p hp => by
                   show arr3[p]? = _
                   rw [hget, if_neg (by omega), if_neg (by omega)]
                   have e5 := congrArg (fun l => l[p]?) f3
                   simp only [List.getElem?_take, if_pos hp, List.getElem?_drop, Array.getElem?_toList] at e5
                   rw [e5]; congr 1) (fun p hp => by
                   show arr3[i * 3 + p]? = _
                   rw [hget, if_neg (by omega), if_pos (by omega)]; congr 1; omega) (fun p hp => by
                   show arr3[(i + 1) * 3 + p]? = _
                   rw [hget, if_pos (by omega), <- hcg p hp]; congr 1; omega) k j cs' c hk hj
               exact ⟨u, by rw [Nat.zero_add]; exact u1, u2⟩)
           refine ⟨A, _, [_], rfl, ⟨rfl, fun j x u hj hu => ?_⟩, b1, b2, b3⟩
           cases j with
           | zero =>
             simp only [List.getElem?_cons_zero, Option.some.injEq] at hj hu
             subst hj; subst hu
             refine .buf _ _ _ _ _ _ _ (by simp) (fun z e xs h => by simp at h; omega) fun z' xs' h' => ?_
             simp at h'
             obtain ⟨rfl, rfl⟩ := h'
             refine ⟨by simp; omega, rfl, ⟨by omega, fun _ a0 h => (by simp only [Option.some.injEq] at h; subst h; rfl), fun h => (by simp at h)⟩, fun _ => ⟨g, 0, arr3.size, upd_same, by simp, ?_, by rw [hs3]; omega⟩⟩
             simp only [rowOf, s3]
           | succ j => simp at hj
def wkC : C -> C
 | .sl z _ _ xs => .sl z none false xs
 | c => c
theorem wkC_rep {w : World} {A : Nat -> Prop} {c : C} {u : Value} (h : RepC w A c u) : RepC w A (wkC c) u := by
 cases h with
 | slnil z nl tt h => exact .slnil _ _ _ (by simp)
 | sl z nl tt xs a cap vs h1 h2 h3 h4 h5 h6 h7 => exact .sl _ _ _ _ _ _ vs h1 (by simp) (by simp) h4 h5 h6 h7
 | int => exact .int ..
 | bool => exact .bool ..
 | str => exact .str ..
 | pnil => exact .pnil
 | inil => exact .inil
 | fnil => exact .fnil
theorem weak1 {w : World} {A : Nat -> Prop} {bl : Bl} {o : O} {e : Nat} {x : List C} (hH : RepH w A bl [o, .mem 3 e [x]]) :
   RepH w A bl [o, .mem 3 e [x.map wkC]] /\ Le w A bl [o, .mem 3 e [x]] w A bl [o, .mem 3 e [x.map wkC]] := by
 obtain ⟨p1, p2, p3⟩ := hH.obj 1 _ rfl
 cases hb : bl 1 with
 | none => have := p2 hb; simp at this
 | some bd =>
   obtain ⟨b, d⟩ := bd
   obtain ⟨arr, t, g1, g2, g3⟩ := p3 b d hb
   have hl : Le w A bl [o, .mem 3 e [x]] w A bl (([o, .mem 3 e [x]] : Hp).set 1 (.mem 3 e [x.map wkC])) :=
     le_set hH (i0 := 1) rfl rfl hb g1 rfl g1 (fun _ _ => rfl) (fun z e2 xs' he => by
       simp only [O.mem.injEq] at he
       obtain ⟨rfl, rfl, rfl⟩ := he
       exact ⟨e, [x], rfl, Nat.le_refl _, fun _ => rfl⟩) (fun cs he => by cases he)
   refine ⟨rep_set hH (i0 := 1) rfl rfl hb hl (fun _ _ => rfl) rfl ⟨fun cs hcs => ?_, fun hn => (by rw [hb] at hn; cases hn), fun b' d' hb' => ?_⟩ ⟨rfl, rfl, rfl⟩, hl⟩
   · simp only [List.mem_singleton] at hcs
     subst hcs
     rw [List.length_map]; exact p1 x (by simp)
   · rw [hb] at hb'
     simp only [Option.some.injEq, Prod.mk.injEq] at hb'
     obtain ⟨rfl, rfl⟩ := hb'
     refine ⟨arr, t, g1, g2, fun k j cs c hk hj => ?_⟩
     cases k with
     | zero =>
       simp only [List.getElem?_cons_zero, Option.some.injEq] at hk
       subst hk
       rw [List.getElem?_map, Option.map_eq_some_iff] at hj
       obtain ⟨c0, hj0, rfl⟩ := hj
       obtain ⟨u, u1, u2⟩ := g3 0 j x c0 rfl hj0
       exact ⟨u, u1, wkC_rep u2⟩
     | succ k => simp at hk
def x118 : List V -> Hp -> Option (List V × Hp) := fun a h => match h with
 | [o, .mem 3 e [x]] => x118s a [o, .mem 3 e [x.map wkC]]
 | _ => none
theorem sound118 {K : World -> Prop} {args vals : List V} {H H' : Hp} (h : x118 args H = some (vals, H')) : Enter Tryd.prog 118 /\ Sound Tryd.prog K 118 args H vals H' := by
 unfold x118 at h
 split at h
 case h_2 => simp at h
 rename_i o e x
 obtain ⟨h1, h2⟩ := sound118s (K := K) h
 refine ⟨h1, fun w A bl us hcx hH hargs => ?_⟩
 obtain ⟨hW, hl⟩ := weak1 hH
 refine (h2 w A bl us hcx hW ⟨hargs.1, fun j x u hj hu => (hargs.2 j x u hj hu).mono hl⟩).mono ?_
 rintro en w' ⟨A', bl', rs, q1, q2, q3, q4, q5⟩
 refine ⟨A', bl', rs, q1, q2, q3, hl.trans q4, ?_⟩
 refine Evo.trans (A1 := A) (L1 := Liv bl [o, .mem 3 e [x.map wkC]]) (Evo.mk rfl rfl rfl (Nat.le_refl _) (fun _ _ _ => rfl) (fun b hb => .inl ?_) (fun _ hb => .inl hb)) q5
 exact liv_set (i0 := 1) (o := .mem 3 e [x]) (H := [o, .mem 3 e [x]]) rfl rfl hb
end Go.Proofs.YtgaabjmbnomimaaDoor
namespace Go.Proofs.YtgaabjmbnomimaaDoor
open Go Go.RowKit Go.Ev
set_option maxRecDepth 100000
theorem eqnil23 (w : World) (b : Option Addr) (n m : Nat) : (binOp .eql 23 (.slice b n m) (.slice none 0 0)).run Tryd.prog w = .ok (.bool b.isNone) w := by
 have := (run_eq (P := Tryd.prog) (by simp) (by simp) (by simp) (by simp) (eq_sl (w := w) (d := 9999) under23 b n m : (Op.equalIn Op.maxDepth 23 (.slice b n m) (.slice none 0 0)).run Tryd.prog w = .ok b.isNone w)).1
 simpa using this
theorem clone_none (w : World) : Calls Tryd.prog 149 #[.slice none 0 0] w fun e w1 => e = .returned (.slice none 0 0) /\ w1 = w := by
 have u27 := under23
 have hq := fun w => eqnil23 w none 0 0
 go_enter Tryd.func149, Tryd.ntmps149
 go_wp2_with (simp only [hq])
 all_goals go_ret
 all_goals exact ⟨rfl, rfl⟩
theorem clone_some (w : World) (a : Addr) (n cap : Nat) (r : Value) (w' : World)
   (hrun : (Builtin.append_ #[23, 23] 23 #[.slice (some ⟨w.heap.size, 0, none⟩) 0 0, .slice (some a) n cap]).run Tryd.prog (w.alloc (.cells #[] 31)) = .ok r w') :
   Calls Tryd.prog 149 #[.slice (some a) n cap] w fun e w1 => e = .returned r /\ w1 = w' := by
 have u27 := under23
 have s31 := size31
 have hq := fun w => eqnil23 w (some a) n cap
 go_enter Tryd.func149, Tryd.ntmps149
 go_wp2_with (first | simp only [hq] | (at_builtin; refine wpList_append_runI _ rfl _ _ 23 23 rfl _ _ rfl rfl hrun ?_))
 all_goals go_ret
 all_goals exact ⟨rfl, rfl⟩
def x149 : List V -> Hp -> Option (List V × Hp) := fun a h => match a, h with
 | [.c (.sl 3 _ _ xs)], [] => if xs.length < 4294967296 then some ([.buf 0 0 0 xs.length], [.mem 3 0 xs]) else none
 | _, _ => none
theorem sound149 {K : World -> Prop} {args vals : List V} {H H' : Hp} (h : x149 args H = some (vals, H')) : Enter Tryd.prog 149 /\ Sound Tryd.prog K 149 args H vals H' := by
 refine ⟨fun args w => ?_, ?_⟩
 · simp only [callFunc, Sem.run_bind, run_program, Result.andThen_ok, Tryd.func149]
   rfl
 have hT : ∀ t y, T t = some y -> tyOf Tryd.prog t = some y := T_ok
 obtain ⟨i0, dd, hti⟩ := tyOf_is (P := Tryd.prog) ty31
 have h3s : i0.size = 3 := hti.size.symm
 unfold x149 at h
 split at h
 case h_2 => simp at h
 rename_i nl tt xs
 split at h <;> simp only [Option.some.injEq, Prod.mk.injEq, reduceCtorEq] at h
 rename_i hlt
 obtain ⟨rfl, rfl⟩ := h
 intro w A bl us hcx hH hargs
 obtain ⟨hl, hr⟩ := hargs
 match us, hl, hr with
 | [u], _, hr =>
   have hu := hr 0 _ u rfl rfl
   have hg : Grow w (w.alloc (.cells #[] 31)) := Grow.alloc w _
   obtain ⟨hH1, hle1⟩ := grow hH hg (N := fun _ => False) (fun _ h => h.elim)
   have hev1 : Evo w A (Liv bl []) (w.alloc (.cells #[] 31)) (fun b => A b \/ False) (Liv bl []) := hg.evo (fun b h => .inl h) (fun b h => .inl (h.elim id False.elim))
   have hd : RepV (w.alloc (.cells #[] 31)) (fun b => A b \/ False) bl [] (.c (.sl 3 none true [])) (.slice (some ⟨w.heap.size, 0, none⟩) 0 0) :=
     .c _ _ (.sl 3 none true [] ⟨w.heap.size, 0, none⟩ 0 (fun _ _ => .nilFunc) (fun h => absurd rfl h) (by simp) (fun _ => rfl) (Nat.le_refl _) (by simp) (by simp) (by simp))
   have hout : ∀ {w2 : World} {A2 : Nat -> Prop} {bl2 : Bl} {H2 : Hp} {v : V} {r : Value}, RepV w2 A2 bl2 H2 v r -> RepL w2 A2 bl2 H2 [v] [r] := fun {w2 A2 bl2 H2 v r} h => ⟨rfl, fun j x u hj hu => by
     cases j with
     | zero =>
       simp only [List.getElem?_cons_zero, Option.some.injEq] at hj hu
       subst hj; subst hu; exact h
     | succ j => simp at hj⟩
   cases xs with
   | nil =>
     rcases hu.sl_inv with ⟨rfl, _, hnl⟩ | ⟨a, cap, vs, rfl, g⟩
     · refine Calls.mono (clone_none w) ?_
       rintro e w' ⟨rfl, rfl⟩
       obtain ⟨bl', b1, b2, b3, b4⟩ := push_none hH 3
       exact ⟨A, bl', [_], rfl, hout (buf_none rfl), b2, b3, b4⟩
     · obtain ⟨news, hsrc⟩ := srcOf_is hH1 (tx := 23) (sz := 3) (.inl ⟨31, under23⟩) (s := .c (.sl 3 nl tt [])) (ys := []) (by simp [srcOf]) (hu.mono hle1)
       have hs := hsrc.src
       have hn : news = [] := by have := hs.newsLen; simpa using this
       subst hn
       rw [<- h3s] at hs
       have hrun := run_append_nothing (P := Tryd.prog) (w.alloc (.cells #[] 31)) 23 23 23 31 i0 under23 hti.info (some ⟨w.heap.size, 0, none⟩) 0 0 (Nat.le_refl _) _ hs
       refine Calls.mono (clone_some w a 0 cap _ _ hrun) ?_
       rintro e w' ⟨rfl, rfl⟩
       obtain ⟨bl', b1, b2, b3, b4⟩ := push_none hH1 3
       refine ⟨_, bl', [_], rfl, hout (.buf _ _ _ _ _ _ _ (by simp) (fun z e xs _ => Nat.zero_le _) fun z' xs' h' => ?_), b2, hle1.trans b3, hev1.trans b4⟩
       simp at h'
       obtain ⟨_, rfl⟩ := h'
       exact ⟨by simp, rfl, ⟨Nat.le_refl _, fun h => absurd rfl h, fun _ => rfl⟩, fun h => absurd rfl h⟩
   | cons x r =>
     rcases hu.sl_inv with ⟨_, h, _⟩ | ⟨a, cap, vs, rfl, g⟩
     · simp at h
     · obtain ⟨rr, w', h1, bl', h2, h3, h4, h5⟩ := appendV_run (ty := 23) (k := 2) (v := .buf 0 0 0 (r.length + 1)) (H' := [.mem 3 0 (x :: r)]) hT hH1 (show T 23 = some _ from rfl) rfl (show T 31 = some _ from rfl) (by decide) rfl (.inl ⟨31, under23⟩) (by
         show appendV 3 [] (.c (.sl 3 none true [])) (.c (.sl 3 nl tt (x :: r))) = _
         simp only [appendV, srcOf, if_true, List.length_cons, List.length_nil, Nat.zero_add, List.nil_append]
         rw [if_pos ⟨.inl trivial, .inl trivial, hlt⟩]) hd (hu.mono hle1)
       refine Calls.mono (clone_some w a (r.length + 1) cap rr w' h1) ?_
       rintro e w'' ⟨rfl, rfl⟩
       exact ⟨_, bl', [_], rfl, hout h2, h3, hle1.trans h4, hev1.trans h5⟩
theorem under55 : Tryd.prog.underlying 55 = some (.slice 65) := by kernel_rfl
theorem size65 : (Tryd.prog.info? 65).map (·.size) = some 2 := by kernel_rfl
theorem eqnil55 (w : World) (b : Option Addr) (n m : Nat) : (binOp .eql 55 (.slice b n m) (.slice none 0 0)).run Tryd.prog w = .ok (.bool b.isNone) w := by
 have := (run_eq (P := Tryd.prog) (by simp) (by simp) (by simp) (by simp) (eq_sl (w := w) (d := 9999) under55 b n m : (Op.equalIn Op.maxDepth 55 (.slice b n m) (.slice none 0 0)).run Tryd.prog w = .ok b.isNone w)).1
 simpa using this
theorem clone_none2 (w : World) : Calls Tryd.prog 72 #[.slice none 0 0] w fun e w1 => e = .returned (.slice none 0 0) /\ w1 = w := by
 have u27 := under55
 have hq := fun w => eqnil55 w none 0 0
 go_enter Tryd.func72, Tryd.ntmps72
 go_wp2_with (simp only [hq])
 all_goals go_ret
 all_goals exact ⟨rfl, rfl⟩
theorem clone_some2 (w : World) (a : Addr) (n cap : Nat) (r : Value) (w' : World)
   (hrun : (Builtin.append_ #[55, 55] 55 #[.slice (some ⟨w.heap.size, 0, none⟩) 0 0, .slice (some a) n cap]).run Tryd.prog (w.alloc (.cells #[] 65)) = .ok r w') :
   Calls Tryd.prog 72 #[.slice (some a) n cap] w fun e w1 => e = .returned r /\ w1 = w' := by
 have u27 := under55
 have s65 := size65
 have hq := fun w => eqnil55 w (some a) n cap
 go_enter Tryd.func72, Tryd.ntmps72
 go_wp2_with (first | simp only [hq] | (at_builtin; refine wpList_append_runI _ rfl _ _ 55 55 rfl _ _ rfl rfl hrun ?_))
 all_goals go_ret
 all_goals exact ⟨rfl, rfl⟩
def x72 : List V -> Hp -> Option (List V × Hp) := fun a h => match a, h with
 | [.c (.sl 2 _ _ xs)], [] => if xs.length < 4294967296 then some ([.buf 0 0 0 xs.length], [.mem 2 0 xs]) else none
 | _, _ => none
theorem sound72 {K : World -> Prop} {args vals : List V} {H H' : Hp} (h : x72 args H = some (vals, H')) : Enter Tryd.prog 72 /\ Sound Tryd.prog K 72 args H vals H' := by
 refine ⟨fun args w => ?_, ?_⟩
 · simp only [callFunc, Sem.run_bind, run_program, Result.andThen_ok, Tryd.func72]
   rfl
 have hT : ∀ t y, T t = some y -> tyOf Tryd.prog t = some y := T_ok
 obtain ⟨i0, dd, hti⟩ := tyOf_is (P := Tryd.prog) ty65
 have h3s : i0.size = 2 := hti.size.symm
 unfold x72 at h
 split at h
 case h_2 => simp at h
 rename_i nl tt xs
 split at h <;> simp only [Option.some.injEq, Prod.mk.injEq, reduceCtorEq] at h
 rename_i hlt
 obtain ⟨rfl, rfl⟩ := h
 intro w A bl us hcx hH hargs
 obtain ⟨hl, hr⟩ := hargs
 match us, hl, hr with
 | [u], _, hr =>
   have hu := hr 0 _ u rfl rfl
   have hg : Grow w (w.alloc (.cells #[] 65)) := Grow.alloc w _
   obtain ⟨hH1, hle1⟩ := grow hH hg (N := fun _ => False) (fun _ h => h.elim)
   have hev1 : Evo w A (Liv bl []) (w.alloc (.cells #[] 65)) (fun b => A b \/ False) (Liv bl []) := hg.evo (fun b h => .inl h) (fun b h => .inl (h.elim id False.elim))
   have hd : RepV (w.alloc (.cells #[] 65)) (fun b => A b \/ False) bl [] (.c (.sl 2 none true [])) (.slice (some ⟨w.heap.size, 0, none⟩) 0 0) :=
     .c _ _ (.sl 2 none true [] ⟨w.heap.size, 0, none⟩ 0 (fun _ _ => .nilFunc) (fun h => absurd rfl h) (by simp) (fun _ => rfl) (Nat.le_refl _) (by simp) (by simp) (by simp))
   have hout : ∀ {w2 : World} {A2 : Nat -> Prop} {bl2 : Bl} {H2 : Hp} {v : V} {r : Value}, RepV w2 A2 bl2 H2 v r -> RepL w2 A2 bl2 H2 [v] [r] := fun {w2 A2 bl2 H2 v r} h => ⟨rfl, fun j x u hj hu => by
     cases j with
     | zero =>
       simp only [List.getElem?_cons_zero, Option.some.injEq] at hj hu
       subst hj; subst hu; exact h
     | succ j => simp at hj⟩
   cases xs with
   | nil =>
     rcases hu.sl_inv with ⟨rfl, _, hnl⟩ | ⟨a, cap, vs, rfl, g⟩
     · refine Calls.mono (clone_none2 w) ?_
       rintro e w' ⟨rfl, rfl⟩
       obtain ⟨bl', b1, b2, b3, b4⟩ := push_none hH 2
       exact ⟨A, bl', [_], rfl, hout (buf_none rfl), b2, b3, b4⟩
     · obtain ⟨news, hsrc⟩ := srcOf_is hH1 (tx := 55) (sz := 2) (.inl ⟨65, under55⟩) (s := .c (.sl 2 nl tt [])) (ys := []) (by simp [srcOf]) (hu.mono hle1)
       have hs := hsrc.src
       have hn : news = [] := by have := hs.newsLen; simpa using this
       subst hn
       rw [<- h3s] at hs
       have hrun := run_append_nothing (P := Tryd.prog) (w.alloc (.cells #[] 65)) 55 55 55 65 i0 under55 hti.info (some ⟨w.heap.size, 0, none⟩) 0 0 (Nat.le_refl _) _ hs
       refine Calls.mono (clone_some2 w a 0 cap _ _ hrun) ?_
       rintro e w' ⟨rfl, rfl⟩
       obtain ⟨bl', b1, b2, b3, b4⟩ := push_none hH1 2
       refine ⟨_, bl', [_], rfl, hout (.buf _ _ _ _ _ _ _ (by simp) (fun z e xs _ => Nat.zero_le _) fun z' xs' h' => ?_), b2, hle1.trans b3, hev1.trans b4⟩
       simp at h'
       obtain ⟨_, rfl⟩ := h'
       exact ⟨by simp, rfl, ⟨Nat.le_refl _, fun h => absurd rfl h, fun _ => rfl⟩, fun h => absurd rfl h⟩
   | cons x r =>
     rcases hu.sl_inv with ⟨_, h, _⟩ | ⟨a, cap, vs, rfl, g⟩
     · simp at h
     · obtain ⟨rr, w', h1, bl', h2, h3, h4, h5⟩ := appendV_run (ty := 55) (k := 2) (v := .buf 0 0 0 (r.length + 1)) (H' := [.mem 2 0 (x :: r)]) hT hH1 (show T 55 = some _ from rfl) rfl (show T 65 = some _ from rfl) (by decide) rfl (.inl ⟨65, under55⟩) (by
         show appendV 2 [] (.c (.sl 2 none true [])) (.c (.sl 2 nl tt (x :: r))) = _
         simp only [appendV, srcOf, if_true, List.length_cons, List.length_nil, Nat.zero_add, List.nil_append]
         rw [if_pos ⟨.inl trivial, .inl trivial, hlt⟩]) hd (hu.mono hle1)
       refine Calls.mono (clone_some2 w a (r.length + 1) cap rr w' h1) ?_
       rintro e w'' ⟨rfl, rfl⟩
       exact ⟨_, bl', [_], rfl, hout h2, h3, hle1.trans h4, hev1.trans h5⟩
end Go.Proofs.YtgaabjmbnomimaaDoor
namespace Go.Proofs.YtgaabjmbnomimaaDoor
open Go Go.Ev Go.Sort
def begins (s p : Bys) : Bool := decide (p.length <= s.length) && decide (s.take p.length = p)
mutual
def walkT (al : List UInt8 -> Bool) (q : Bys) : Nd -> List Ent
 | .node lab rs ks => cond (al (q ++ lab)) ((match rs with | [] => [] | r :: s => [(q ++ lab, r :: s)]) ++ walkL al (q ++ lab) ks) []
def walkL (al : List UInt8 -> Bool) (q : Bys) : List Nd -> List Ent
 | [] => []
 | t :: r => walkT al q t ++ walkL al q r
end
def alU (p : Bys) (s : Bys) : Bool := begins s p || begins p s
def alB (fr to_ : Bys) (s : Bys) : Bool := (!Op.bytesLess s fr || begins fr s) && (match to_ with | [] => true | _ :: _ => Op.bytesLess s to_)
def alongP (f : FuncId) (caps : List V) (h : Hp) : Option (List UInt8 -> Bool) := match f with
 | 82 => match caps, h with
   | [], [_, _, _] => some fun _ => true
   | _, _ => none
 | 88 => match caps, h with
   | [.fp [.str p]], [_, _, _] => some (alU p)
   | _, _ => none
 | 86 => match caps, h with
   | [.fp [.str p], .fp [.str t]], [_, _, _] => some (alB p t)
   | _, _ => none
 | _ => none
@[reducible] def VE (e : Ent) : V := .agg [.c (.str e.1), .c (.sl 5 none false (rows e.2))]
def encE (e : Ent) : List V := [VE e]
def sq166 (a : List V) (h : Hp) : Option (List (List V)) := match a, h with
 | [_, .ptr 0 0 0 0, .ptr 1 0 0 0, .ptr 2 0 0 0], .box [.c (.str q)] :: .box [.c (.str s), .c (.sl 5 _ _ xs), .c (.sl 3 _ _ ys)] :: .box [.fn f caps] :: _ => match alongP f caps h with
   | some al => some ((walkT al q (.node s (toRows xs) (decL ys))).map encE)
   | none => none
 | _, _ => none
structure Sd where
 p : List UInt8
 a : List Row
 b : List Row
 c : List Row
 deriving DecidableEq, Inhabited
def rowsV (rs : List Row) : V := match rs with
 | [] => .c (.sl 5 (some true) true [])
 | r :: s => .c (.sl 5 none false (rows (r :: s)))
@[reducible] def VS (x : Sd) : V := .agg [.c (.str x.p), rowsV x.a, rowsV x.b, rowsV x.c]
def encS (x : Sd) : List V := [VS x]
def leastP (p : Bys) (x : List Ent) : List UInt8 := match x with
 | [] => p
 | e :: _ => match p with
   | [] => e.1
   | _ :: _ => cond (Op.bytesLess e.1 p) e.1 p
def headP (p : Bys) (x : List Ent) : List Row := match x with
 | [] => []
 | e :: _ => cond (e.1 == p) e.2 []
def tailP (p : Bys) (x : List Ent) : List Ent := match x with
 | [] => []
 | e :: r => cond (e.1 == p) r (e :: r)
def sidesF : Nat -> List Ent -> List Ent -> List Ent -> List Sd
 | 0, _, _, _ => []
 | f + 1, x, y, z => match leastP (leastP (leastP [] x) y) z with
   | [] => []
   | b :: q => ⟨b :: q, headP (b :: q) x, headP (b :: q) y, headP (b :: q) z⟩ :: sidesF f (tailP (b :: q) x) (tailP (b :: q) y) (tailP (b :: q) z)
def sidesP (x y z : List Ent) : List Sd := sidesF (x.length + y.length + z.length + 1) x y z
def entP (t : Nd) : List Ent := cond (okR t) (entL t.kids) []
def sq137 (a : List V) (h : Hp) : Option (List (List V)) := match a, h with
 | [_, .ptr 0 0 0 0], [.box [.c (.sl 3 _ _ ts)]] => some ((sidesP (entP ((decL ts).getD 0 default)) (entP ((decL ts).getD 1 default)) (entP ((decL ts).getD 2 default))).map encS)
 | _, _ => none
def commitsP (l : List Gr.Cm) (n : Int) (known : List Int) : List Int := (Gr.firstG l n).reverse.filter fun k => !known.contains k
def encI (n : Int) : List V := [V.i n]
def sq110 (a : List V) (h : Hp) : Option (List (List V)) := match a, h with
 | [_, .ptr 0 0 0 0, .ptr 1 0 0 0, .ptr 2 0 0 0], [.box [.c (.sl 2 _ _ xs), .c (.sl 3 _ _ _)], .box [.c (.int .i64 n)], .box [.c (.sl 1 _ _ ks)]] => some ((commitsP (Gr.toRepo xs) n (toInts ks)).map encI)
 | _, _ => none
def encB (x : Int × Int) : List V := [V.i x.1, V.i x.2]
def backI : List Int -> Int -> List (Int × Int)
 | [], _ => []
 | x :: r, n => backI r (n + 1) ++ [(n, x)]
def sq146 (a : List V) (h : Hp) : Option (List (List V)) := match a, h with
 | [_, .ptr 0 0 0 0], [.box [.c (.sl 1 _ _ xs)]] => some ((backI (toInts xs) 0).map encB)
 | _, _ => none
def sq : FuncId -> List V -> Hp -> Option (List (List V)) := fun g a h => match g with
 | 166 => sq166 a h
 | 137 => sq137 a h
 | 110 => sq110 a h
 | 146 => sq146 a h
 | _ => none
def cmpB (a b : Bys) : Int := if Op.bytesLess a b = true then -1 else if Op.bytesLess b a = true then 1 else 0
abbrev Tg := List UInt8 × Nat
def tagE : Nat -> List (List C) -> List Tg
 | _, [] => []
 | n, x :: r => ((x.headD .pnil).st, n) :: tagE (n + 1) r
def sortT (l : List Tg) : List Tg := (pdq (fun x y : Tg => decide (cmpB x.1 y.1 < 0)) l.toArray 0 l.length (Lib.bitLen l.length) true true).toList
def sortX (xs : LLC) : List (List C) := (sortT (tagE 0 xs)).map fun t => xs.getD t.2 []
def isEnts (xs : LLC) : Bool := xs.all fun c => shOk [.str, .sl 5] c
def x73 : List V -> Hp -> Option (List V × Hp) := fun a h => match a, h with
 | [.buf 0 0 0 len, .fn 74 []], [.mem 2 0 xs] => if isEnts xs = true /\ len = xs.length /\ xs.length < 4294967296 then some ([], [.mem 2 0 (sortX xs)]) else none
 | _, _ => none
end Go.Proofs.YtgaabjmbnomimaaDoor
namespace Go.Proofs.YtgaabjmbnomimaaDoor
open Go Go.Ev
def xt : FuncId -> Option (List V -> Hp -> Option (List V × Hp)) := fun g => match g with
 | 148 => some x148
 | 149 => some x149
 | 118 => some x118
 | 122 => some x122
 | 72 => some x72
 | 73 => some x73
 | _ => none
noncomputable def E : Env := E0 xt sq
def s148 : CSpec := fun a h => match a, h with
 | [.c (.str s)], [] => some ([decide (s.length < 4294967296)], [V.i (runesL s)], [])
 | _, _ => none
theorem s148_ok : CSpecOk E 148 s148 := fun a h cs vals h' he hc => by
 unfold s148 at he
 split at he <;> simp only [Option.some.injEq, Prod.mk.injEq, reduceCtorEq] at he
 rename_i s
 obtain ⟨rfl, rfl, rfl⟩ := he
 simp only [allT, Bool.and_true, decide_eq_true_eq] at hc
 exact call_ext (f := x148) rfl (by simp only [x148, if_pos hc])
end Go.Proofs.YtgaabjmbnomimaaDoor
namespace Go.Proofs.YtgaabjmbnomimaaDoor
open Go Go.Ev
noncomputable abbrev p116 : Par := par E sh (ctOf [(148, s148)]) 116 1 0
theorem t116 (k : Int) (n : Int) (s : Bys) : p116.ft ([V.agg [V.i k, V.i n, V.c (C.str s)]]) ([]) = (Tr.br (k == 1) (Tr.br (s == []) (Tr.leaf (R.out [V.c (C.int IntKind.i64 0)] [])) (Tr.leaf (R.out [V.c (C.int IntKind.i64 2)] []))) (Tr.br (k == 2) (Tr.br (n == 0) (Tr.br (decide ((↑s.length : Int) <= 40)) (Tr.chk (decide (s.length < 4294967296)) (Tr.br (decide (0 <= runesL s)) (Tr.leaf (R.out [V.c (C.int IntKind.i64 0)] [])) (Tr.leaf (R.out [V.c (C.int IntKind.i64 2)] [])))) (Tr.leaf (R.out [V.c (C.int IntKind.i64 2)] []))) (Tr.leaf (R.out [V.c (C.int IntKind.i64 2)] []))) (Tr.leaf (R.out [V.c (C.int IntKind.i64 2)] [])))) := by kernel_rfl
noncomputable abbrev p115 : Par := par E sh (ctOf []) 115 2 0
theorem t115 (a : Int) (b : Int) : p115.ft ([V.i a, V.i b]) ([]) = (Tr.br (decide (0 <= a)) (Tr.br (decide (a < b)) (Tr.leaf (R.out [V.c (C.bool (decide (b <= 1099511627776)))] [])) (Tr.leaf (R.out [V.c (C.bool false)] []))) (Tr.leaf (R.out [V.c (C.bool false)] []))) := by kernel_rfl
end Go.Proofs.YtgaabjmbnomimaaDoor
namespace Go.Proofs.YtgaabjmbnomimaaDoor
open Go Go.Ev
theorem f115 (a b : Int) : call E 115 [V.i a, V.i b] [] = some ([V.b (isSpan a b)], []) := by
 refine call_of (E := E) (sh := sh) (ct := ctOf []) (na := 2) (m := 0) ctOf_nil rfl rfl rfl rfl rfl rfl ?_
 rw [t115]
 simp only [fd_br, fd_leaf, decide_eq_true_eq, isSpan]
 by_cases h1 : 0 <= a <;> by_cases h2 : a < b <;> simp [h1, h2]
theorem f116 (v : Val) : call E 116 [VV v] [] = some ([V.i (checkV v)], []) := by
 obtain ⟨k, n, s⟩ := v
 refine call_of (E := E) (sh := sh) (ct := ctOf [(148, s148)]) (na := 1) (m := 0) (ctOf_cons s148_ok ctOf_nil) rfl rfl rfl rfl rfl rfl ?_
 rw [t116]
 simp only [fd_br, fd_chk', fd_leaf, decide_eq_true_eq, beq_iff_eq, checkV]
 by_cases h1 : k = 1
 · subst h1
   by_cases h2 : s = [] <;> simp [h2]
 · by_cases h3 : k = 2
   · subst h3
     by_cases h4 : n = 0
     · by_cases h5 : s.length <= 40
       · have h6 : s.length < 4294967296 := by omega
         have h5' : (s.length : Int) <= 40 := by omega
         by_cases h7 : 0 <= runesL s <;> simp [h4, h5, h5', h6, h7]
       · have h5' : ¬ (s.length : Int) <= 40 := by omega
         simp [h4, h5, h5']
     · simp [h4]
   · simp [h1, h3]
end Go.Proofs.YtgaabjmbnomimaaDoor
namespace Go.Proofs.YtgaabjmbnomimaaDoor
open Go Go.Ev
@[simp] theorem er_ok' (r : Row) : shOk [Sk.int .i64, Sk.int .i64, Sk.int .i64, Sk.int .i64, Sk.str] (er r) = true := rfl
theorem er_b (r : Row) (d : C) : ((er r).tail.headD d).i = r.b := rfl
theorem er_a (r : Row) (d : C) : ((er r).headD d).i = r.a := rfl
theorem half_wrap {a b : Nat} (h : a + b <= 8589934592) : IntKind.wrap .i64 (IntKind.wrap .u64 (IntKind.wrap .i64 ((a : Int) + b)) / 2 ^ min (Int.toNat 1) (IntKind.bits .u64)) = (((a + b) / 2 : Nat) : Int) := by
 have e : (2 : Int) ^ min (Int.toNat 1) (IntKind.bits .u64) = 2 := rfl
 have e1 : IntKind.wrap .i64 ((a : Int) + b) = (a : Int) + b := wrap_same (by omega) (by omega)
 have e2 : IntKind.wrap .u64 ((a : Int) + b) = (a : Int) + b := by
   simp only [IntKind.wrap, IntKind.bits, IntKind.signed]
   simp; omega
 rw [e, e1, e2, wrap_same (by omega) (by omega)]
 omega
end Go.Proofs.YtgaabjmbnomimaaDoor
namespace Go.Proofs.YtgaabjmbnomimaaDoor
open Go Go.Ev
def s116 : CSpec := fun a h => match a, h with
 | [.agg [.c (.int .i64 k), .c (.int .i64 n), .c (.str s)]], [] => some ([], [V.i (checkV ⟨k, n, s⟩)], [])
 | _, _ => none
def s115 : CSpec := fun a h => match a, h with
 | [.c (.int .i64 a), .c (.int .i64 b)], [] => some ([], [V.b (isSpan a b)], [])
 | _, _ => none
noncomputable abbrev p64 : Par := par E sh (ctOf [(115, s115), (116, s116)]) 64 1 0
abbrev s64_0 (nl : OBo) (tt : Bool) (xs : LLC) (i10 : Int) (i11 : Int) : Fr × Hp := ([(0, V.c (C.sl 5 nl tt xs)), (9, V.c (C.sl 5 nl tt xs)), (10, V.c (C.int IntKind.i64 i10)), (11, V.c (C.int IntKind.i64 i11))], [])
noncomputable abbrev b64_0 : Code := loopAt (codeOf E (64)) 0
abbrev x64_0x0 (ih0 : Int) (ih0_1 : Int) (ih0_2 : Int) (ih0_3 : Int) (sh0 : Bys) : Ex × Fr × Hp := (Ex.ret, [(2, V.c (C.int IntKind.i64 2))], [O.box [V.c (C.int IntKind.i64 ih0), V.c (C.int IntKind.i64 ih0_1), V.c (C.int IntKind.i64 ih0_2), V.c (C.int IntKind.i64 ih0_3), V.c (C.str sh0)]])
abbrev x64_0x1 (ih0 : Int) (ih0_1 : Int) (ih0_2 : Int) (ih0_3 : Int) (sh0 : Bys) (ih1 : Int) (ih1_1 : Int) (ih1_2 : Int) (ih1_3 : Int) (sh1 : Bys) : Ex × Fr × Hp := (Ex.ret, [(2, V.c (C.int IntKind.i64 2))], [O.box [V.c (C.int IntKind.i64 ih0), V.c (C.int IntKind.i64 ih0_1), V.c (C.int IntKind.i64 ih0_2), V.c (C.int IntKind.i64 ih0_3), V.c (C.str sh0)], O.box [V.c (C.int IntKind.i64 ih1), V.c (C.int IntKind.i64 ih1_1), V.c (C.int IntKind.i64 ih1_2), V.c (C.int IntKind.i64 ih1_3), V.c (C.str sh1)]])
abbrev x64_0x2 (nl : OBo) (tt : Bool) (xs : LLC) (i10 : Int) (i11 : Int) : Ex × Fr × Hp := (Ex.exit 0, [(0, V.c (C.sl 5 nl tt xs)), (9, V.c (C.sl 5 nl tt xs)), (10, V.c (C.int IntKind.i64 i10)), (11, V.c (C.int IntKind.i64 i11)), (12, V.c (C.bool false))], [])
theorem t64_0 (nl : OBo) (tt : Bool) (xs : LLC) (i10 : Int) (i11 : Int) : p64.lts b64_0 (s64_0 nl tt xs i10 i11) = (Tr.br (decide (i11 < i10)) (Tr.chk (decide (0 <= i11)) (Tr.chk true (Tr.chk (decide (i11.toNat < xs.length)) (Tr.chk (shOk [Sk.int IntKind.i64, Sk.int IntKind.i64, Sk.int IntKind.i64, Sk.int IntKind.i64, Sk.str] (xs.getD i11.toNat [])) (Tr.br (!isSpan ((xs.getD i11.toNat []).headD C.pnil).i ((xs.getD i11.toNat []).tail.headD C.pnil).i) (Tr.leaf (R.x (x64_0x0 (((xs.getD i11.toNat []).headD C.pnil).i) (((xs.getD i11.toNat []).tail.headD C.pnil).i) (((xs.getD i11.toNat []).tail.tail.headD C.pnil).i) (((xs.getD i11.toNat []).tail.tail.tail.headD C.pnil).i) (((xs.getD i11.toNat []).tail.tail.tail.tail.headD C.pnil).st)))) (Tr.br (checkV { k := ((xs.getD i11.toNat []).tail.tail.headD C.pnil).i, n := ((xs.getD i11.toNat []).tail.tail.tail.headD C.pnil).i, s := ((xs.getD i11.toNat []).tail.tail.tail.tail.headD C.pnil).st } != 0) (Tr.leaf (R.x (x64_0x0 (((xs.getD i11.toNat []).headD C.pnil).i) (((xs.getD i11.toNat []).tail.headD C.pnil).i) (((xs.getD i11.toNat []).tail.tail.headD C.pnil).i) (((xs.getD i11.toNat []).tail.tail.tail.headD C.pnil).i) (((xs.getD i11.toNat []).tail.tail.tail.tail.headD C.pnil).st)))) (Tr.br (i11 == 0) (Tr.leaf (R.s (s64_0 nl tt xs i10 (IntKind.i64.wrap (i11 + 1))))) (Tr.chk (decide (0 <= IntKind.i64.wrap (i11 - 1))) (Tr.chk true (Tr.chk (decide ((IntKind.i64.wrap (i11 - 1)).toNat < xs.length)) (Tr.chk (shOk [Sk.int IntKind.i64, Sk.int IntKind.i64, Sk.int IntKind.i64, Sk.int IntKind.i64, Sk.str] (xs.getD (IntKind.i64.wrap (i11 - 1)).toNat [])) (Tr.br (decide (((xs.getD i11.toNat []).headD C.pnil).i < ((xs.getD (IntKind.i64.wrap (i11 - 1)).toNat []).tail.headD C.pnil).i)) (Tr.leaf (R.x (x64_0x1 (((xs.getD i11.toNat []).headD C.pnil).i) (((xs.getD i11.toNat []).tail.headD C.pnil).i) (((xs.getD i11.toNat []).tail.tail.headD C.pnil).i) (((xs.getD i11.toNat []).tail.tail.tail.headD C.pnil).i) (((xs.getD i11.toNat []).tail.tail.tail.tail.headD C.pnil).st) (((xs.getD (IntKind.i64.wrap (i11 - 1)).toNat []).headD C.pnil).i) (((xs.getD (IntKind.i64.wrap (i11 - 1)).toNat []).tail.headD C.pnil).i) (((xs.getD (IntKind.i64.wrap (i11 - 1)).toNat []).tail.tail.headD C.pnil).i) (((xs.getD (IntKind.i64.wrap (i11 - 1)).toNat []).tail.tail.tail.headD C.pnil).i) (((xs.getD (IntKind.i64.wrap (i11 - 1)).toNat []).tail.tail.tail.tail.headD C.pnil).st)))) (Tr.br (((xs.getD i11.toNat []).headD C.pnil).i == ((xs.getD (IntKind.i64.wrap (i11 - 1)).toNat []).tail.headD C.pnil).i) (Tr.br (((xs.getD i11.toNat []).tail.tail.headD C.pnil).i == ((xs.getD (IntKind.i64.wrap (i11 - 1)).toNat []).tail.tail.headD C.pnil).i && (((xs.getD i11.toNat []).tail.tail.tail.headD C.pnil).i == ((xs.getD (IntKind.i64.wrap (i11 - 1)).toNat []).tail.tail.tail.headD C.pnil).i && (((xs.getD i11.toNat []).tail.tail.tail.tail.headD C.pnil).st == ((xs.getD (IntKind.i64.wrap (i11 - 1)).toNat []).tail.tail.tail.tail.headD C.pnil).st && true))) (Tr.leaf (R.x (x64_0x1 (((xs.getD i11.toNat []).headD C.pnil).i) (((xs.getD i11.toNat []).tail.headD C.pnil).i) (((xs.getD i11.toNat []).tail.tail.headD C.pnil).i) (((xs.getD i11.toNat []).tail.tail.tail.headD C.pnil).i) (((xs.getD i11.toNat []).tail.tail.tail.tail.headD C.pnil).st) (((xs.getD (IntKind.i64.wrap (i11 - 1)).toNat []).headD C.pnil).i) (((xs.getD (IntKind.i64.wrap (i11 - 1)).toNat []).tail.headD C.pnil).i) (((xs.getD (IntKind.i64.wrap (i11 - 1)).toNat []).tail.tail.headD C.pnil).i) (((xs.getD (IntKind.i64.wrap (i11 - 1)).toNat []).tail.tail.tail.headD C.pnil).i) (((xs.getD (IntKind.i64.wrap (i11 - 1)).toNat []).tail.tail.tail.tail.headD C.pnil).st)))) (Tr.leaf (R.s (s64_0 nl tt xs i10 (IntKind.i64.wrap (i11 + 1)))))) (Tr.leaf (R.s (s64_0 nl tt xs i10 (IntKind.i64.wrap (i11 + 1)))))))))))))))))) (Tr.leaf (R.x (x64_0x2 nl tt xs i10 i11)))) := by kernel_rfl
theorem k64_0x0 (ih0 : Int) (ih0_1 : Int) (ih0_2 : Int) (ih0_3 : Int) (sh0 : Bys) : p64.fkx 0 (x64_0x0 ih0 ih0_1 ih0_2 ih0_3 sh0) = (Tr.leaf (R.out [V.c (C.int IntKind.i64 2)] [])) := by kernel_rfl
theorem k64_0x1 (ih0 : Int) (ih0_1 : Int) (ih0_2 : Int) (ih0_3 : Int) (sh0 : Bys) (ih1 : Int) (ih1_1 : Int) (ih1_2 : Int) (ih1_3 : Int) (sh1 : Bys) : p64.fkx 0 (x64_0x1 ih0 ih0_1 ih0_2 ih0_3 sh0 ih1 ih1_1 ih1_2 ih1_3 sh1) = (Tr.leaf (R.out [V.c (C.int IntKind.i64 2)] [])) := by kernel_rfl
theorem k64_0x2 (nl : OBo) (tt : Bool) (xs : LLC) (i10 : Int) (i11 : Int) : p64.fkx 0 (x64_0x2 nl tt xs i10 i11) = (Tr.leaf (R.out [V.c (C.int IntKind.i64 0)] [])) := by kernel_rfl
theorem t64 (nl : OBo) (tt : Bool) (xs : LLC) : p64.ft ([V.c (C.sl 5 nl tt xs)]) ([]) = (Tr.br (decide (64 < (↑xs.length : Int))) (Tr.leaf (R.out [V.c (C.int IntKind.i64 2)] [])) (Tr.ls 0 (s64_0 nl tt xs ((↑xs.length : Int)) (0)))) := by kernel_rfl
end Go.Proofs.YtgaabjmbnomimaaDoor
namespace Go.Proofs.YtgaabjmbnomimaaDoor
open Go Go.Ev
theorem s116_ok : CSpecOk E 116 s116 := by
 intro a h cs vals h' he hc
 unfold s116 at he
 split at he <;> simp only [Option.some.injEq, Prod.mk.injEq, reduceCtorEq] at he
 rename_i k n s
 obtain ⟨rfl, rfl, rfl⟩ := he
 exact f116 ⟨k, n, s⟩
theorem s115_ok : CSpecOk E 115 s115 := by
 intro a h cs vals h' he hc
 unfold s115 at he
 split at he <;> simp only [Option.some.injEq, Prod.mk.injEq, reduceCtorEq] at he
 rename_i a b
 obtain ⟨rfl, rfl, rfl⟩ := he
 exact f115 a b
theorem er_v (r : Row) (d : C) : (⟨((er r).tail.tail.headD d).i, ((er r).tail.tail.tail.headD d).i, ((er r).tail.tail.tail.tail.headD d).st⟩ : Val) = r.v := rfl
theorem er_k (r : Row) (d : C) : ((er r).tail.tail.headD d).i = r.v.k := rfl
theorem er_n (r : Row) (d : C) : ((er r).tail.tail.tail.headD d).i = r.v.n := rfl
theorem er_s (r : Row) (d : C) : ((er r).tail.tail.tail.tail.headD d).st = r.v.s := rfl
def F64 (l : List Row) (nl : OBo) (tt : Bool) : List Row -> Option Row -> Ex × Fr × Hp
 | [], _ => x64_0x2 nl tt (rows l) l.length l.length
 | x :: r, p => if isSpan x.a x.b = false then x64_0x0 x.a x.b x.v.k x.v.n x.v.s else if checkV x.v = 0 then
     (match p with
      | none => F64 l nl tt r (some x)
      | some w => if x.a < w.b then x64_0x1 x.a x.b x.v.k x.v.n x.v.s w.a w.b w.v.k w.v.n w.v.s else if x.a = w.b /\ x.v = w.v then x64_0x1 x.a x.b x.v.k x.v.n x.v.s w.a w.b w.v.k w.v.n w.v.s else F64 l nl tt r (some x))
   else x64_0x0 x.a x.b x.v.k x.v.n x.v.s
theorem F64_ok (l : List Row) (nl : OBo) (tt : Bool) : ∀ (r : List Row) (p : Option Row), p64.fd (p64.fkx 0 (F64 l nl tt r p)) = some (.out [V.i (cond (okFrom p r) 0 2)] [])
 | [], p => by rw [F64, k64_0x2]; rfl
 | x :: r, p => by
   have ih := F64_ok l nl tt r (some x)
   simp only [F64, okFrom]
   by_cases h1 : isSpan x.a x.b = false
   · rw [if_pos h1, k64_0x0, h1]; rfl
   · rw [if_neg h1]
     have h1' : isSpan x.a x.b = true := by simpa using h1
     by_cases h2 : checkV x.v = 0
     · rw [if_pos h2]
       cases p with
       | none => rw [ih]; simp [h1', h2]
       | some w =>
         by_cases h3 : x.a < w.b
         · simp only [if_pos h3]; rw [k64_0x1]; simp [h3]; rfl
         · simp only [if_neg h3]
           by_cases h4 : x.a = w.b /\ x.v = w.v
           · rw [if_pos h4, k64_0x1]; simp [h4.1, h4.2]; rfl
           · rw [if_neg h4, ih]
             have : (decide (x.a = w.b) && decide (x.v = w.v)) = false := by simpa using h4
             simp [h1', h2, h3, this]
     · rw [if_neg h2, k64_0x0]; simp [h2]; rfl
end Go.Proofs.YtgaabjmbnomimaaDoor
namespace Go.Proofs.YtgaabjmbnomimaaDoor
open Go Go.Ev
theorem val_eqb (a b : Val) : (a.k == b.k && (a.n == b.n && (a.s == b.s && true))) = decide (a = b) := by
 obtain ⟨a1, a2, a3⟩ := a
 obtain ⟨b1, b2, b9003⟩ := b
 rw [Bool.eq_iff_iff]
 simp
theorem f64 (l : List Row) (nl : OBo) (tt : Bool) : call E 64 [.c (.sl 5 nl tt (rows l))] [] = some ([V.i (cond (right l) 0 2)], []) := by
 have hct : (ctOf [(115, s115), (116, s116)]).ok E := ctOf_cons s115_ok (ctOf_cons s116_ok ctOf_nil)
 refine call_of (E := E) (sh := sh) (ct := ctOf [(115, s115), (116, s116)]) (na := 1) (m := 0) hct rfl rfl rfl rfl rfl rfl ?_
 rw [t64, rows_length]
 simp only [fd_br, decide_eq_true_eq]
 by_cases hl : (64 : Int) < l.length
 · rw [if_pos hl, fd_leaf]
   have : right l = false := by simp [right]; omega
   rw [this]; rfl
 · rw [if_neg hl]
   have hr : right l = okFrom none l := by simp [right]; omega
   rw [hr]
   have hloop := loop_list (p := p64) hct (b := b64_0) l (fun k (_ : Option Row) => s64_0 nl tt (rows l) (l.length : Int) (k : Int)) (fun k s => s = if k = 0 then none else l[k - 1]?) (F64 l nl tt)
     (fun k s x hx hk hi => by
       rw [t64_0]
       have hg : (rows l).getD k [] = er x := by rw [rows_getD hk]; rw [List.getElem?_eq_getElem hk] at hx; simp only [Option.some.injEq] at hx; rw [hx]
       simp only [ld_br, ld_chk', ld_leaf, decide_true, decide_eq_true_eq, if_true, Int.toNat_natCast, Int.natCast_nonneg, Int.ofNat_lt, if_false, bne_iff_ne, beq_iff_eq, ne_eq, Bool.not_eq_true', reduceCtorEq, Int.ofNat_lt, hk, rows_length, hg, er_ok', er_a, er_b, er_k, er_n, er_s]
       have hw1 : IntKind.wrap .i64 ((k : Int) + 1) = ((k + 1 : Nat) : Int) := by rw [wrap_same (by omega) (by omega)]; omega
       by_cases h1 : isSpan x.a x.b = false
       · right; simp only [F64, if_pos h1]; exact ⟨by simp, trivial⟩
       · by_cases h2 : checkV x.v = 0
         · cases k with
           | zero =>
             left
             subst hi
             refine ⟨some x, by simpa using hx.symm, ?_, ?_⟩
             · simp only [F64, if_neg h1, if_pos h2, if_true]
             · rw [if_neg h1, if_neg (by simpa using h2)]; simp only [Int.natCast_zero, if_true] at hw1 ⊢; rw [hw1]
           | succ k =>
             have hk' : k < l.length := by omega
             have hw2 : IntKind.wrap .i64 (((k + 1 : Nat) : Int) - 1) = (k : Int) := by rw [wrap_same (by omega) (by omega)]; omega
             have hne : ¬ (((k + 1 : Nat) : Int) = 0) := by omega
             have hs : s = some l[k] := by rw [hi]; simp [hk']
             subst hs
             simp only [if_neg h1, h2, not_true_eq_false, if_false, if_neg hne, hw2, Int.natCast_nonneg, if_true, Int.toNat_natCast, hk', rows_getD hk', er_ok', er_a, er_b, er_k, er_n, er_s, hw1, F64]
             rw [val_eqb]
             by_cases h3 : x.a < l[k].b
             · right; simp only [if_pos h3]; exact ⟨by simp, trivial⟩
             · by_cases h4 : x.a = l[k].b
               · by_cases h5 : x.v = l[k].v
                 · right; simp only [if_neg h3, if_pos h4, if_pos (And.intro h4 h5), decide_eq_true h5, if_true]; exact ⟨by simp, trivial⟩
                 · left
                   refine ⟨some x, by simpa using hx.symm, ?_, ?_⟩
                   · simp only [if_neg h3, h5, and_false, if_false]
                   · simp [h3, h5]
               · left
                 refine ⟨some x, by simpa using hx.symm, ?_, ?_⟩
                 · simp only [if_neg h3, h4, false_and, if_false]
                 · simp [h3, h4]
         · right; simp only [F64, if_neg h1, if_neg h2, if_pos h2]; exact ⟨by simp, trivial⟩)
     (fun s hi => by
       rw [t64_0]
       simp only [ld_br, ld_chk', ld_leaf, decide_true, decide_eq_true_eq, if_true, Int.toNat_natCast, Int.natCast_nonneg, Int.ofNat_lt, bne_iff_ne, beq_iff_eq, ne_eq, not_false_eq_true, Bool.not_eq_true', reduceCtorEq, F64]
       refine ⟨trivial, ?_⟩
       rw [if_neg (Nat.lt_irrefl _)]) none rfl
   refine fd_ls hct (by kernel_rfl) hloop ?_ rfl
   exact F64_ok l nl tt l none
end Go.Proofs.YtgaabjmbnomimaaDoor
namespace Go.Proofs.YtgaabjmbnomimaaDoor
open Go Go.Ev
def s64 : CSpec := fun a h => match a, h with
 | [.c (.sl 5 nl tt xs)], [] => some ([isRows xs], [V.i (checkR (toRows xs))], [])
 | _, _ => none
noncomputable abbrev p26 : Par := par E sh (ctOf []) 26 2 0
abbrev s26_0 (nl : OBo) (tt : Bool) (xs : LLC) (nl2 : OBo) (t2 : Bool) (ys : LLC) (i5 : Int) : Fr × Hp := ([(0, V.c (C.sl 5 nl tt xs)), (1, V.c (C.sl 5 nl2 t2 ys)), (5, V.c (C.int IntKind.i64 i5))], [])
noncomputable abbrev b26_0 : Code := loopAt (codeOf E (26)) 0
abbrev x26_0x0 : Ex × Fr × Hp := (Ex.ret, [(4, V.c (C.bool false))], [])
abbrev x26_0x1 (nl : OBo) (tt : Bool) (xs : LLC) (nl2 : OBo) (t2 : Bool) (ys : LLC) (i5 : Int) : Ex × Fr × Hp := (Ex.exit 0, [(0, V.c (C.sl 5 nl tt xs)), (1, V.c (C.sl 5 nl2 t2 ys)), (5, V.c (C.int IntKind.i64 i5)), (14, V.c (C.bool false))], [])
theorem t26_0 (nl : OBo) (tt : Bool) (xs : LLC) (nl2 : OBo) (t2 : Bool) (ys : LLC) (i5 : Int) : p26.lts b26_0 (s26_0 nl tt xs nl2 t2 ys i5) = (Tr.br (decide (i5 < (↑xs.length : Int))) (Tr.chk (decide (0 <= i5)) (Tr.chk true (Tr.chk (decide (i5.toNat < xs.length)) (Tr.chk (shOk [Sk.int IntKind.i64, Sk.int IntKind.i64, Sk.int IntKind.i64, Sk.int IntKind.i64, Sk.str] (xs.getD i5.toNat [])) (Tr.chk (decide (0 <= i5)) (Tr.chk true (Tr.chk (decide (i5.toNat < ys.length)) (Tr.chk (shOk [Sk.int IntKind.i64, Sk.int IntKind.i64, Sk.int IntKind.i64, Sk.int IntKind.i64, Sk.str] (ys.getD i5.toNat [])) (Tr.br (!(((xs.getD i5.toNat []).headD C.pnil).i == ((ys.getD i5.toNat []).headD C.pnil).i && (((xs.getD i5.toNat []).tail.headD C.pnil).i == ((ys.getD i5.toNat []).tail.headD C.pnil).i && (((xs.getD i5.toNat []).tail.tail.headD C.pnil).i == ((ys.getD i5.toNat []).tail.tail.headD C.pnil).i && (((xs.getD i5.toNat []).tail.tail.tail.headD C.pnil).i == ((ys.getD i5.toNat []).tail.tail.tail.headD C.pnil).i && (((xs.getD i5.toNat []).tail.tail.tail.tail.headD C.pnil).st == ((ys.getD i5.toNat []).tail.tail.tail.tail.headD C.pnil).st && true)))))) (Tr.leaf (R.x x26_0x0)) (Tr.leaf (R.s (s26_0 nl tt xs nl2 t2 ys (IntKind.i64.wrap (i5 + 1)))))))))))))) (Tr.leaf (R.x (x26_0x1 nl tt xs nl2 t2 ys i5)))) := by kernel_rfl
theorem k26_0x0 : p26.fkx 0 x26_0x0 = (Tr.leaf (R.out [V.c (C.bool false)] [])) := by kernel_rfl
theorem k26_0x1 (nl : OBo) (tt : Bool) (xs : LLC) (nl2 : OBo) (t2 : Bool) (ys : LLC) (i5 : Int) : p26.fkx 0 (x26_0x1 nl tt xs nl2 t2 ys i5) = (Tr.leaf (R.out [V.c (C.bool true)] [])) := by kernel_rfl
theorem t26 (nl : OBo) (tt : Bool) (xs : LLC) (nl2 : OBo) (t2 : Bool) (ys : LLC) : p26.ft ([V.c (C.sl 5 nl tt xs), V.c (C.sl 5 nl2 t2 ys)]) ([]) = (Tr.br ((↑xs.length : Int) != (↑ys.length : Int)) (Tr.leaf (R.out [V.c (C.bool false)] [])) (Tr.ls 0 (s26_0 nl tt xs nl2 t2 ys (0)))) := by kernel_rfl
end Go.Proofs.YtgaabjmbnomimaaDoor
namespace Go.Proofs.YtgaabjmbnomimaaDoor
open Go Go.Ev
@[simp] theorem ep_ok' (r : Piece) : shOk [Sk.int .i64, Sk.int .i64, Sk.int .i64, Sk.int .i64, Sk.str, Sk.int .i64, Sk.int .i64, Sk.str] (ep r) = true := rfl
theorem ep_a (r : Piece) (d : C) : ((ep r).headD d).i = r.a := rfl
theorem ep_b (r : Piece) (d : C) : ((ep r).tail.headD d).i = r.b := rfl
theorem ep_hk (r : Piece) (d : C) : ((ep r).tail.tail.headD d).i = r.h.k := rfl
theorem ep_hn (r : Piece) (d : C) : ((ep r).tail.tail.tail.headD d).i = r.h.n := rfl
theorem ep_hs (r : Piece) (d : C) : ((ep r).tail.tail.tail.tail.headD d).st = r.h.s := rfl
theorem ep_wk (r : Piece) (d : C) : ((ep r).tail.tail.tail.tail.tail.headD d).i = r.w.k := rfl
theorem ep_wn (r : Piece) (d : C) : ((ep r).tail.tail.tail.tail.tail.tail.headD d).i = r.w.n := rfl
theorem ep_ws (r : Piece) (d : C) : ((ep r).tail.tail.tail.tail.tail.tail.tail.headD d).st = r.w.s := rfl
end Go.Proofs.YtgaabjmbnomimaaDoor
namespace Go.Proofs.YtgaabjmbnomimaaDoor
open Go Go.Ev
theorem s64_ok : CSpecOk E 64 s64 := by
 intro a h cs vals h' he hc
 unfold s64 at he
 split at he <;> simp only [Option.some.injEq, Prod.mk.injEq, reduceCtorEq] at he
 rename_i nl tt xs
 obtain ⟨rfl, rfl, rfl⟩ := he
 simp only [allT, Bool.and_eq_true, and_true] at hc
 have := f64 (toRows xs) nl tt
 rw [<- rows_of hc] at this
 rw [this]
 unfold checkR
 cases right (toRows xs) <;> rfl
theorem checkR_ne (l : List Row) : (checkR l != 0) = !right l := by
 unfold checkR; cases right l <;> rfl
end Go.Proofs.YtgaabjmbnomimaaDoor
namespace Go.Proofs.YtgaabjmbnomimaaDoor
open Go Go.Ev
theorem row_eqb (x y : Row) : (x.a == y.a && (x.b == y.b && (x.v.k == y.v.k && (x.v.n == y.v.n && (x.v.s == y.v.s && true))))) = decide (x = y) := by
 obtain ⟨a, b, ⟨k, m, s⟩⟩ := x
 obtain ⟨a', b', ⟨k', m', s'⟩⟩ := y
 rw [Bool.eq_iff_iff]
 simp
theorem take_ext {α : Type} {l m : List α} {k : Nat} (h1 : l.take k = m.take k) (hk : k < l.length) (hm : k < m.length) (he : l[k] = m[k]) : l.take (k + 1) = m.take (k + 1) := by
 rw [List.take_succ, List.take_succ, h1, List.getElem?_eq_getElem hk, List.getElem?_eq_getElem hm, he]
theorem f26 (l m : List Row) (nl : OBo) (tt : Bool) (nl2 : OBo) (t2 : Bool) (hl : l.length <= 9223372036854775807) : call E 26 [.c (.sl 5 nl tt (rows l)), .c (.sl 5 nl2 t2 (rows m))] [] = some ([V.b (decide (l = m))], []) := by
 refine call_of (E := E) (sh := sh) (ct := ctOf []) (na := 2) (m := 0) ctOf_nil rfl rfl rfl rfl rfl rfl ?_
 rw [t26]
 simp only [fd_br, fd_leaf, bne_iff_ne, ne_eq, rows_length]
 by_cases h : l.length = m.length
 · have h' : ¬ ¬ (l.length : Int) = m.length := by omega
   rw [if_neg h']
   refine fd_post ctOf_nil (by kernel_rfl) rfl (list_post ctOf_nil (b := b26_0) l.length (fun k (_ : Unit) => s26_0 nl tt (rows l) nl2 t2 (rows m) k) (fun k _ => l.take k = m.take k) _ ?_ ?_ 0 (Nat.zero_le _) () (by rfl))
   · intro k _ hk hi
     have hm : k < m.length := by omega
     rw [t26_0]
     simp only [ld_br, ld_chk', ld_leaf, decide_true, if_true, Int.toNat_natCast, Int.natCast_nonneg, Int.ofNat_lt, ne_eq, Bool.not_eq_true', decide_eq_false_iff_not, rows_length, er_ok', er_a, er_b, er_k, er_n, er_s, hk, hm, rows_getD hk, rows_getD hm, row_eqb, wrap_succ (show k < 9223372036854775807 by omega)]
     by_cases he : l[k] = m[k]
     · left
       exact ⟨(), take_ext hi hk hm he, by simp [he]⟩
     · right
       refine ⟨x26_0x0, by simp, ?_, by simp [he]⟩
       rw [k26_0x0, fd_leaf, decide_eq_false (fun e => he (by subst e; rfl))]
   · intro _ hi
     rw [t26_0]
     refine ⟨x26_0x1 nl tt (rows l) nl2 t2 (rows m) l.length, by simp, ?_, by simp only [ld_br, ld_chk', ld_leaf, decide_true, decide_eq_true_eq, if_true, Int.toNat_natCast, Int.natCast_nonneg, Int.ofNat_lt, if_false, Bool.not_eq_true', rows_length, Nat.lt_irrefl]⟩
     rw [List.take_length, h, List.take_length] at hi
     rw [k26_0x1, fd_leaf, decide_eq_true hi]
 · have h' : ¬ (l.length : Int) = m.length := by omega
   rw [if_pos h', decide_eq_false (fun e => h (by rw [e]))]
end Go.Proofs.YtgaabjmbnomimaaDoor
namespace Go.Proofs.YtgaabjmbnomimaaDoor
open Go Go.Ev
mutual
def depT : Nd -> Nat
 | .node _ _ kids => depL kids + 1
def depL : List Nd -> Nat
 | [] => 0
 | t :: r => max (depT t) (depL r)
end
theorem depT_eq (t : Nd) : depT t = depL t.kids + 1 := by cases t; rw [depT]; rfl
theorem depL_mem : ∀ {l : List Nd} {t : Nd}, t ∈ l -> depT t <= depL l
 | x :: r, t, h => by
   rw [depL]
   rcases List.mem_cons.1 h with rfl | h
   · exact Nat.le_max_left _ _
   · exact Nat.le_trans (depL_mem h) (Nat.le_max_right _ _)
theorem depL_kid {l : List Nd} {t : Nd} (h : t ∈ l) : depL t.kids < depL l := by
 have := depL_mem h
 rw [depT_eq] at this
 omega
def bsK (l : List Nd) (b : Int) : Nat -> Nat -> Nat -> Nat
 | 0, lo, _ => lo
 | n + 1, lo, hi => if lo < hi then (if hdB (l.getD ((lo + hi) / 2) default).lab < b then bsK l b n ((lo + hi) / 2 + 1) hi else bsK l b n lo ((lo + hi) / 2)) else lo
def posK (l : List Nd) (b : Int) : Nat := bsK l b l.length 0 l.length
def hitK (l : List Nd) (b : Int) : Bool := decide (posK l b < l.length) && decide (hdB (l.getD (posK l b) default).lab = b)
theorem bsK_end (l : List Nd) (b : Int) (n : Nat) {lo hi : Nat} (h : ¬ lo < hi) : bsK l b n lo hi = lo := by
 cases n with
 | zero => rfl
 | succ n => simp only [bsK, if_neg h]
theorem bsK_fuel (l : List Nd) (b : Int) : ∀ (n m lo hi : Nat), hi - lo <= n -> hi - lo <= m -> bsK l b n lo hi = bsK l b m lo hi
 | 0, m, lo, hi, h1, h2 => by rw [bsK_end l b 0 (by omega), bsK_end l b m (by omega)]
 | n + 1, 0, lo, hi, h1, h2 => by rw [bsK_end l b 0 (by omega), bsK_end l b (n + 1) (by omega)]
 | n + 1, m + 1, lo, hi, h1, h2 => by
   simp only [bsK]
   split
   · split
     · exact bsK_fuel l b n m _ _ (by omega) (by omega)
     · exact bsK_fuel l b n m _ _ (by omega) (by omega)
   · rfl
theorem bsK_le (l : List Nd) (b : Int) : ∀ (n lo hi : Nat), lo <= hi -> hi <= l.length -> lo <= bsK l b n lo hi /\ bsK l b n lo hi <= hi
 | 0, lo, hi, h, _ => ⟨Nat.le_refl _, h⟩
 | n + 1, lo, hi, h, h2 => by
   simp only [bsK]
   split
   · split
     · have := bsK_le l b n ((lo + hi) / 2 + 1) hi (by omega) h2; omega
     · have := bsK_le l b n lo ((lo + hi) / 2) (by omega) (by omega); omega
   · omega
theorem posK_le (l : List Nd) (b : Int) : posK l b <= l.length := (bsK_le l b _ 0 _ (Nat.zero_le _) (Nat.le_refl _)).2
def riseK (l : List Nd) : Prop := ∀ i j, i < j -> j < l.length -> hdB (l.getD i default).lab < hdB (l.getD j default).lab
theorem okL_rise : ∀ {l : List Nd} {n : Nat} {f : Int}, okL l n f = true -> riseK l /\ ∀ t ∈ l, f < hdB t.lab
 | [], n, f, _ => ⟨fun i j _ h => by simp at h, by simp⟩
 | t :: r, n, f, h => by
   simp only [okL, Bool.and_eq_true, decide_eq_true_eq] at h
   obtain ⟨k1, k2⟩ := okL_rise h.2
   refine ⟨fun i j hij hj => ?_, fun u hu => ?_⟩
   · cases j with
     | zero => omega
     | succ j =>
       have hj' : j < r.length := by simpa using hj
       cases i with
       | zero =>
         have := k2 (r.getD j default) (by rw [List.getD_eq_getElem?_getD, List.getElem?_eq_getElem hj']; exact List.getElem_mem hj')
         simpa using this
       | succ i => have := k1 i j (by omega) hj'; simpa using this
   · rcases List.mem_cons.1 hu with rfl | hu
     · exact h.1.2
     · have := k2 u hu; omega
theorem bsK_find (l : List Nd) (b : Int) (hs : riseK l) : ∀ (n lo hi : Nat), lo <= hi -> hi <= l.length -> hi - lo <= n -> (∀ i, i < lo -> hdB (l.getD i default).lab < b) -> (∀ i, hi <= i -> i < l.length -> b <= hdB (l.getD i default).lab) →
   (∀ i, i < bsK l b n lo hi -> hdB (l.getD i default).lab < b) /\ (∀ i, bsK l b n lo hi <= i -> i < l.length -> b <= hdB (l.getD i default).lab)
 | 0, lo, hi, h, _, h3, h4, h5 => by
   obtain rfl : lo = hi := by omega
   exact ⟨h4, h5⟩
 | n + 1, lo, hi, h, h2, h3, h4, h5 => by
   simp only [bsK]
   split
   · rename_i hlt
     split
     · rename_i hb
       refine bsK_find l b hs n ((lo + hi) / 2 + 1) hi (by omega) h2 (by omega) (fun i hi' => ?_) h5
       rcases Nat.lt_or_ge i ((lo + hi) / 2) with hlt2 | hge
       · have := hs i _ hlt2 (by omega); omega
       · obtain rfl : i = (lo + hi) / 2 := by omega
         exact hb
     · rename_i hb
       refine bsK_find l b hs n lo ((lo + hi) / 2) (by omega) (by omega) (by omega) h4 (fun i h6 h7 => ?_)
       rcases Nat.lt_or_ge ((lo + hi) / 2) i with hlt2 | hge
       · have := hs _ i hlt2 h7; omega
       · obtain rfl : i = (lo + hi) / 2 := by omega
         omega
   · obtain rfl : lo = hi := by omega
     exact ⟨h4, h5⟩
theorem posK_find {l : List Nd} (hs : riseK l) (b : Int) : (∀ i, i < posK l b -> hdB (l.getD i default).lab < b) /\ (∀ i, posK l b <= i -> i < l.length -> b <= hdB (l.getD i default).lab) :=
 bsK_find l b hs _ 0 _ (Nat.zero_le _) (Nat.le_refl _) (by omega) (fun i h => by omega) (fun i h h2 => by omega)
theorem getD_at' {l : List Nd} {i : Nat} (h : i < l.length) : l.getD i default = l[i] := by simp [List.getD_eq_getElem?_getD, h]
theorem hdB_lt (l : Bys) : 0 <= hdB l /\ hdB l <= 255 := by
 unfold hdB
 have := (l.headD 0).toNat_lt
 omega
theorem okL_len : ∀ {l : List Nd} {n : Nat} {f : Int}, okL l n f = true -> f <= 255 -> (l.length : Int) <= 255 - f
 | [], n, f, _, hf => by simp; omega
 | t :: r, n, f, h, hf => by
   simp only [okL, Bool.and_eq_true, decide_eq_true_eq] at h
   have h1 := hdB_lt t.lab
   have h2 := okL_len h.2 h1.2
   rw [List.length_cons]; omega
end Go.Proofs.YtgaabjmbnomimaaDoor
namespace Go.Proofs.YtgaabjmbnomimaaDoor
open Go Go.Ev
theorem rows_ex {xs : List (List C)} (h : isRows xs = true) : ∃ l, xs = rows l := ⟨_, rows_of h⟩
theorem beqL (p q : Bys) : (p == q) = decide (p = q) := by rw [Bool.eq_iff_iff]; simp
end Go.Proofs.YtgaabjmbnomimaaDoor
namespace Go.Proofs.YtgaabjmbnomimaaDoor
open Go Go.Ev
noncomputable abbrev p124 : Par := par E sh (ctOf []) 124 2 0
theorem t124 (s : Bys) (xs : LLC) (ys : LLC) (b : Int) : p124.ft ([V.agg [V.c (C.str s), V.c (C.sl 5 none false xs), V.c (C.sl 3 none false ys)], V.c (C.int IntKind.u8 b)]) ([]) = (Tr.chk true (Tr.chk (decide (Int.toNat 0 < s.length)) (Tr.leaf (R.out [V.c (C.int IntKind.i64 (IntKind.i64.wrap (IntKind.i64.wrap (↑(s.getD (Int.toNat 0) 0).toNat : Int) - IntKind.i64.wrap b)))] [])))) := by kernel_rfl
def s124 : CSpec := fun a h => match a, h with
 | [.agg [.c (.str s), .c (.sl 5 none false xs), .c (.sl 3 none false ys)], .c (.int .u8 b)], [] => some ([decide (s ≠ []), decide (0 <= b), decide (b <= 255)], [V.i (hdB s - b)], [])
 | _, _ => none
def labsOk (l : List Nd) : Bool := l.all fun t => decide (t.lab ≠ [])
noncomputable abbrev p68 : Par := par E sh (ctOf []) 68 1 0
theorem t68 (tt : Bool) (xs : LLC) : p68.ft ([V.c (C.sl 5 (some false) tt xs)]) ([]) = (Tr.br false (Tr.leaf (R.out [V.c (C.sl 5 none false [])] [])) (Tr.chk true (Tr.chk true (Tr.chk (decide (0 + xs.length < 4294967296)) (Tr.chk true (Tr.leaf (R.out [V.c (C.sl 5 none false (List.take (0 + xs.length) (List.take 0 [] ++ xs)))] []))))))) := by kernel_rfl
theorem t68n (tt : Bool) : p68.ft ([V.c (C.sl 5 (some true) tt [])]) ([]) = (Tr.br true (Tr.leaf (R.out [V.c (C.sl 5 none false [])] [])) (Tr.chk true (Tr.chk true (Tr.chk true (Tr.chk true (Tr.leaf (R.out [V.c (C.sl 5 none false [])] []))))))) := by kernel_rfl
theorem t140c (tt : Bool) (x : List C) (xs : LLC) : p68.ft ([V.c (C.sl 5 none tt (x :: xs))]) ([]) = (Tr.br false (Tr.leaf (R.out [V.c (C.sl 5 none false [])] [])) (Tr.chk true (Tr.chk true (Tr.chk (decide (0 + (x :: xs).length < 4294967296)) (Tr.chk true (Tr.leaf (R.out [V.c (C.sl 5 none false (List.take (0 + (x :: xs).length) (List.take 0 [] ++ x :: xs)))] []))))))) := by kernel_rfl
variable (dd : Nat)
def s69 : CSpec := fun a h => match a, h with
 | [.c (.sl 3 nl tt xs), .c (.int .i64 n)], [] => some ([isL xs, decide (depL (decL xs) < dd), decide (0 <= n), decide (n < 1000000)], [V.b (okL (decL xs) n.toNat (-1))], [])
 | _, _ => none
noncomputable abbrev p69 : Par := par E sh (ctOf [(64, s64), (69, s69 dd)]) 69 2 0
abbrev s69_0 (nl : OBo) (tt : Bool) (xs : LLC) (n : Int) (i5 : Int) (i9 : Int) (i10 : Int) : Fr × Hp := ([(1, V.c (C.int IntKind.i64 n)), (5, V.c (C.int IntKind.i64 i5)), (8, V.c (C.sl 3 nl tt xs)), (9, V.c (C.int IntKind.i64 i9)), (10, V.c (C.int IntKind.i64 i10))], [])
noncomputable abbrev b69_0 : Code := loopAt (codeOf E (69)) 0
abbrev x69_0x0 (sh0 : Bys) (nlh0 : OBo) (xsh0 : LLC) (xsh0_1 : LLC) : Ex × Fr × Hp := (Ex.ret, [(4, V.c (C.bool false))], [O.box [V.c (C.str sh0), V.c (C.sl 5 nlh0 false xsh0), V.c (C.sl 3 nlh0 false xsh0_1)]])
abbrev x69_0x1 (nl : OBo) (tt : Bool) (xs : LLC) (n : Int) (i5 : Int) (i9 : Int) (i10 : Int) : Ex × Fr × Hp := (Ex.exit 0, [(1, V.c (C.int IntKind.i64 n)), (5, V.c (C.int IntKind.i64 i5)), (8, V.c (C.sl 3 nl tt xs)), (9, V.c (C.int IntKind.i64 i9)), (10, V.c (C.int IntKind.i64 i10)), (11, V.c (C.bool false))], [])
theorem t69_0 (nl : OBo) (tt : Bool) (xs : LLC) (n : Int) (i5 : Int) (i9 : Int) (i10 : Int) : (p69 dd).lts b69_0 (s69_0 nl tt xs n i5 i9 i10) = (Tr.br (decide (i10 < i9)) (Tr.chk (decide (0 <= i10)) (Tr.chk true (Tr.chk (decide (i10.toNat < xs.length)) (Tr.chk (shOk [Sk.str, Sk.sl 5, Sk.sl 3] (xs.getD i10.toNat [])) (Tr.br (((xs.getD i10.toNat []).headD C.pnil).st == []) (Tr.leaf (R.x (x69_0x0 (((xs.getD i10.toNat []).headD C.pnil).st) (none) (((xs.getD i10.toNat []).tail.headD C.pnil).xs) (((xs.getD i10.toNat []).tail.tail.headD C.pnil).xs)))) (Tr.br (decide (n < (↑((xs.getD i10.toNat []).headD C.pnil).st.length : Int))) (Tr.leaf (R.x (x69_0x0 (((xs.getD i10.toNat []).headD C.pnil).st) (none) (((xs.getD i10.toNat []).tail.headD C.pnil).xs) (((xs.getD i10.toNat []).tail.tail.headD C.pnil).xs)))) (Tr.chk true (Tr.chk (decide (Int.toNat 0 < ((xs.getD i10.toNat []).headD C.pnil).st.length)) (Tr.br (decide (IntKind.i64.wrap (↑(((xs.getD i10.toNat []).headD C.pnil).st.getD (Int.toNat 0) 0).toNat : Int) <= i5)) (Tr.leaf (R.x (x69_0x0 (((xs.getD i10.toNat []).headD C.pnil).st) (none) (((xs.getD i10.toNat []).tail.headD C.pnil).xs) (((xs.getD i10.toNat []).tail.tail.headD C.pnil).xs)))) (Tr.chk (isRows ((xs.getD i10.toNat []).tail.headD C.pnil).xs) (Tr.br (checkR (toRows ((xs.getD i10.toNat []).tail.headD C.pnil).xs) != 0) (Tr.leaf (R.x (x69_0x0 (((xs.getD i10.toNat []).headD C.pnil).st) (none) (((xs.getD i10.toNat []).tail.headD C.pnil).xs) (((xs.getD i10.toNat []).tail.tail.headD C.pnil).xs)))) (Tr.br ((↑((xs.getD i10.toNat []).tail.headD C.pnil).xs.length : Int) == 0) (Tr.br (decide ((↑((xs.getD i10.toNat []).tail.tail.headD C.pnil).xs.length : Int) < 2)) (Tr.leaf (R.x (x69_0x0 (((xs.getD i10.toNat []).headD C.pnil).st) (none) (((xs.getD i10.toNat []).tail.headD C.pnil).xs) (((xs.getD i10.toNat []).tail.tail.headD C.pnil).xs)))) (Tr.chk (isL ((xs.getD i10.toNat []).tail.tail.headD C.pnil).xs) (Tr.chk (decide (depL (decL ((xs.getD i10.toNat []).tail.tail.headD C.pnil).xs) < dd)) (Tr.chk (decide (0 <= IntKind.i64.wrap (n - (↑((xs.getD i10.toNat []).headD C.pnil).st.length : Int)))) (Tr.chk (decide (IntKind.i64.wrap (n - (↑((xs.getD i10.toNat []).headD C.pnil).st.length : Int)) < 1000000)) (Tr.br (!okL (decL ((xs.getD i10.toNat []).tail.tail.headD C.pnil).xs) (IntKind.i64.wrap (n - (↑((xs.getD i10.toNat []).headD C.pnil).st.length : Int))).toNat (-1)) (Tr.leaf (R.x (x69_0x0 (((xs.getD i10.toNat []).headD C.pnil).st) (none) (((xs.getD i10.toNat []).tail.headD C.pnil).xs) (((xs.getD i10.toNat []).tail.tail.headD C.pnil).xs)))) (Tr.chk true (Tr.chk (decide (Int.toNat 0 < ((xs.getD i10.toNat []).headD C.pnil).st.length)) (Tr.leaf (R.s (s69_0 nl tt xs n (IntKind.i64.wrap (↑(((xs.getD i10.toNat []).headD C.pnil).st.getD (Int.toNat 0) 0).toNat : Int)) i9 (IntKind.i64.wrap (i10 + 1))))))))))))) (Tr.chk (isL ((xs.getD i10.toNat []).tail.tail.headD C.pnil).xs) (Tr.chk (decide (depL (decL ((xs.getD i10.toNat []).tail.tail.headD C.pnil).xs) < dd)) (Tr.chk (decide (0 <= IntKind.i64.wrap (n - (↑((xs.getD i10.toNat []).headD C.pnil).st.length : Int)))) (Tr.chk (decide (IntKind.i64.wrap (n - (↑((xs.getD i10.toNat []).headD C.pnil).st.length : Int)) < 1000000)) (Tr.br (!okL (decL ((xs.getD i10.toNat []).tail.tail.headD C.pnil).xs) (IntKind.i64.wrap (n - (↑((xs.getD i10.toNat []).headD C.pnil).st.length : Int))).toNat (-1)) (Tr.leaf (R.x (x69_0x0 (((xs.getD i10.toNat []).headD C.pnil).st) (none) (((xs.getD i10.toNat []).tail.headD C.pnil).xs) (((xs.getD i10.toNat []).tail.tail.headD C.pnil).xs)))) (Tr.chk true (Tr.chk (decide (Int.toNat 0 < ((xs.getD i10.toNat []).headD C.pnil).st.length)) (Tr.leaf (R.s (s69_0 nl tt xs n (IntKind.i64.wrap (↑(((xs.getD i10.toNat []).headD C.pnil).st.getD (Int.toNat 0) 0).toNat : Int)) i9 (IntKind.i64.wrap (i10 + 1)))))))))))))))))))))))) (Tr.leaf (R.x (x69_0x1 nl tt xs n i5 i9 i10)))) := by kernel_rfl
theorem k69_0x0 (dd : Nat) (sh0 : Bys) (nlh0 : OBo) (xsh0 : LLC) (xsh0_1 : LLC) : (p69 dd).fkx 0 (x69_0x0 sh0 nlh0 xsh0 xsh0_1) = (Tr.leaf (R.out [V.c (C.bool false)] [])) := by kernel_rfl
theorem k69_0x1 (dd : Nat) (nl : OBo) (tt : Bool) (xs : LLC) (n : Int) (i5 : Int) (i9 : Int) (i10 : Int) : (p69 dd).fkx 0 (x69_0x1 nl tt xs n i5 i9 i10) = (Tr.leaf (R.out [V.c (C.bool true)] [])) := by kernel_rfl
theorem t69 (nl : OBo) (tt : Bool) (xs : LLC) (n : Int) : (p69 dd).ft ([V.c (C.sl 3 nl tt xs), V.i n]) ([]) = (Tr.ls 0 (s69_0 nl tt xs n (-1) ((↑xs.length : Int)) (0))) := by kernel_rfl
end Go.Proofs.YtgaabjmbnomimaaDoor
