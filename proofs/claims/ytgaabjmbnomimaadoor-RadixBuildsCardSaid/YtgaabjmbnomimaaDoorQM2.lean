/-
  Radix trees, plain: entries rise; what paths have behind a put; Plain: what slices.SortFunc makes of entries; DERIVED: THE SHELF's CONTRACTS AT THIS DUMP, IN PLAIN WORDS (tools/lay-plain.mjs out of 'Zshs_.lean', which tools/lay-shelf.mjs wrote): THE SAME DECLARATIONS UNDER THE SAME NAMES: 'import', 'namespace', 'open', 'def', 'theorem' AND NOTHING ELSE: no command of the shelf's: FOR A HAND-IN. Each laying: the table of numbers ('.._ren') and one theorem, a field a fact of the dump's own or the kernel's comparison; each contract: ONE APPLICATION; ZaRun2; Chapter 02 (span): value.Runes, told to.
-/
import Derived.Sort.AssemblyPlain
import Derived.Test.YtgaabjmbnomimaaDoorProg
import Derived.Shelf.Unicode.DecodeAny
import Derived.Shelf.Small.Strs
import Derived.Shelf.Small.Wraps
import Derived.Shelf.SlSortCmp.WholeK
import Derived.Tactics
import Derived.Tactics2
import Derived.Defers
import Derived.Recover
import Derived.Laws.Pointers
import Derived.Laws.RangeString
import Derived.WalkKit
import Derived.WalkSmall
import Derived.LoopTactic
import Derived.Lib.OthersKept
import Derived.WalkSpells
import Derived.Deep.LoopGhost
import Derived.BigQuiet
import Derived.Deep.QuietTactic
import Derived.Lib.TrimUEq
import Derived.Lib.ByteType
import Derived.RangeFuncRecord
import Derived.Shelf.SlSortCmp.InsertionK
import Derived.Test.YtgaabjmbnomimaaDoorRows
import Derived.ProofKit
import Derived.OpenShut
import Derived.Below
import Derived.Deep.DeepHandedRow
import Derived.Lib.LaidU8T
import Derived.PinnedBridge
import Derived.Test.YtgaabjmbnomimaaDoorEvT
import Derived.Test.YtgaabjmbnomimaaDoorARunD
import Derived.Test.YtgaabjmbnomimaaDoorBP10
set_option linter.all false
namespace Go.Proofs.YtgaabjmbnomimaaDoor
open Go Go.Ev
abbrev Rise (l : List Ent) : Prop := l.Pairwise fun a b => Op.bytesLess a.1 b.1 = true
theorem rise_map (q : Bys) {l : List Ent} (h : Rise l) : Rise (l.map fun e => (q ++ e.1, e.2)) := by
  rw [Rise, List.pairwise_map]
  exact h.imp fun h => by rw [bl_app]; exact h
theorem entL_ne_nil {l : List Nd} {n : Nat} (h : kidsOk l n) : ∀ e ∈ entL l, e.1 ≠ [] := fun _ he => (entL_hd h he).1
theorem rise_own {rs : List Row} {l : List Ent} (h : Rise l) (hn : ∀ e ∈ l, e.1 ≠ []) : Rise (ownB rs ++ l) := by
  unfold ownB
  split
  · exact h
  · rw [List.singleton_append, Rise, List.pairwise_cons]
    refine ⟨fun e he => ?_, h⟩
    obtain ⟨b, q, hb⟩ := head_of_ne (hn e he)
    simp only [hb]; rfl
mutual
theorem entT_rise : ∀ (t : Nd) (n : Nat), okT t n = true → Rise (entT t)
  | .node s rs ks, n, h => by
    obtain ⟨g1, g2, g3, g4, g5⟩ := okT_iff.1 h
    simp only [Nd.lab_node, Nd.rows_node, Nd.kids_node] at g5
    rw [entT_B]
    exact rise_map _ (rise_own (entL_rise ks _ g5) (entL_ne_nil g5))
theorem entL_rise : ∀ (l : List Nd) (n : Nat), kidsOk l n → Rise (entL l)
  | [], _, _ => List.Pairwise.nil
  | t :: r, n, h => by
    have hr : kidsOk r n := kidsOk_sub h (List.sublist_cons_self _ _)
    have hT := h.1 t (by simp)
    have hlt : ∀ k ∈ r, hdB t.lab < hdB k.lab := by have := h.2; rw [List.pairwise_cons] at this; exact this.1
    rw [entL, Rise, List.pairwise_append]
    refine ⟨entT_rise t n hT, entL_rise r n hr, fun a ha b hb => ?_⟩
    obtain ⟨s, hs⟩ := entT_pre t a ha
    obtain ⟨hbn, k, hk, hkb⟩ := entL_hd hr hb
    have hne := (okT_iff.1 hT).1
    refine bl_hd (by rw [hs]; simp [hne]) hbn ?_
    rw [hs, hdB_app hne, hkb]; exact hlt k hk
end
theorem entL_right : ∀ (l : List Nd) (n : Nat), kidsOk l n → ∀ e ∈ entL l, right e.2 = true := by
  have main : ∀ (d : Nat) (l : List Nd) (n : Nat), depL l < d → kidsOk l n → ∀ e ∈ entL l, right e.2 = true := by
    intro d
    induction d with
    | zero => intro l n h; omega
    | succ d ih =>
      intro l n hd h e he
      induction l with
      | nil => simp [entL] at he
      | cons t r ih2 =>
        rw [entL] at he
        rcases List.mem_append.1 he with he | he
        · have hT := okT_iff.1 (h.1 t (by simp))
          rw [entT_B] at he
          obtain ⟨x, hx, rfl⟩ := List.mem_map.1 he
          rcases List.mem_append.1 hx with hx | hx
          · unfold ownB at hx
            split at hx
            · simp at hx
            · simp only [List.mem_singleton] at hx; subst hx; exact hT.2.2.1
          · exact ih t.kids _ (by have := depL_kid (l := t :: r) (t := t) (by simp); omega) hT.2.2.2.2 x hx
        · exact ih2 (by rw [depL] at hd; omega) (kidsOk_sub h (List.sublist_cons_self _ _)) he
  exact fun l n h => main (depL l + 1) l n (Nat.lt_succ_self _) h
theorem entR_rise {t : Nd} (h : okR t = true) : Rise (entR t) := entL_rise _ _ (okR_iff.1 h).2.2
theorem look_ins {E : List Ent} {p : List UInt8} {r : List Row} (hs : Rise E) (q : Bys) : look (insE E p r) q = if q = p then r else look E q := by
  induction E with
  | nil =>
    simp only [insE]
    split
    · rename_i h; simp [look, h]
    · by_cases h : q = p
      · simp [look, h]
      · simp only [look, if_neg h, if_neg (fun e : p = q => h e.symm)]
  | cons e l ih =>
    rw [Rise, List.pairwise_cons] at hs
    simp only [insE]
    by_cases c1 : Op.bytesLess e.1 p = true
    · rw [if_pos c1, look, ih hs.2, look]
      by_cases h : q = p
      · rw [if_neg (fun e2 => bl_ne c1 (e2.trans h)), if_pos h, if_pos h]
      · rw [if_neg h, if_neg h]
    · rw [if_neg c1]
      by_cases c2 : e.1 = p
      · rw [if_pos c2]
        by_cases c3 : r = []
        · rw [if_pos c3, look]
          by_cases h : q = p
          · rw [if_pos h, c3]
            exact look_none fun x hx hxq => bl_ne (hs.1 x hx) (by rw [c2, ← h, hxq])
          · rw [if_neg h, if_neg (fun e2 => h (by rw [← e2, c2]))]
        · rw [if_neg c3, look, look]
          by_cases h : q = p
          · rw [if_pos h.symm, if_pos h]
          · rw [if_neg (fun e2 => h e2.symm), if_neg h, if_neg (fun e2 => h (by rw [← e2, c2]))]
      · rw [if_neg c2]
        have hgt : Op.bytesLess p e.1 = true := by
          cases h : Op.bytesLess p e.1 with
          | true => rfl
          | false => exact absurd (bl_total _ _ (by simpa using c1) h) c2
        by_cases h : q = p
        · rw [if_pos h]
          split
          · rename_i c3
            rw [c3, h]
            refine look_none fun x hx hxp => ?_
            rcases List.mem_cons.1 hx with rfl | hx
            · exact c2 hxp
            · exact bl_ne (bl_trans hgt (hs.1 x hx)) hxp.symm
          · rw [look, if_pos h.symm]
        · rw [if_neg h]
          split
          · rfl
          · rw [look, if_neg (fun e2 => h e2.symm)]
theorem insE_mem {E : List Ent} {p : List UInt8} {r : List Row} {e : Ent} (h : e ∈ insE E p r) : e ∈ E ∨ (e = (p, r) ∧ r ≠ []) := by
  induction E with
  | nil =>
    simp only [insE] at h
    split at h
    · simp at h
    · rename_i c; simp only [List.mem_singleton] at h; exact .inr ⟨h, c⟩
  | cons x l ih =>
    simp only [insE] at h
    split at h
    · rcases List.mem_cons.1 h with rfl | h
      · exact .inl (by simp)
      · exact (ih h).imp (fun h => by simp [h]) id
    · split at h
      · split at h
        · exact .inl (by simp [h])
        · rename_i c; rcases List.mem_cons.1 h with rfl | h
          · exact .inr ⟨rfl, c⟩
          · exact .inl (by simp [h])
      · split at h
        · exact .inl h
        · rename_i c; rcases List.mem_cons.1 h with rfl | h
          · exact .inr ⟨rfl, c⟩
          · exact .inl h
theorem isPath_iff {p : List UInt8} : isPath p = true ↔ p ≠ [] ∧ p.length ≤ 24 := by simp [isPath]
end Go.Proofs.YtgaabjmbnomimaaDoor
namespace Go.Proofs.YtgaabjmbnomimaaDoor
open Go Go.Ev Go.Sort
theorem cmpB_neg {x y : List UInt8} : cmpB x y < 0 ↔ Op.bytesLess x y = true := by
  unfold cmpB
  split
  · rename_i h; simp [h]
  · rename_i h
    split <;> simp [h]
theorem swoT : SWO (fun x y : Tg => decide (cmpB x.1 y.1 < 0)) where
  irrefl x := by
    have : ¬ cmpB x.1 x.1 < 0 := by rw [cmpB_neg, bl_irrefl]; simp
    simpa using this
  trans x y z h1 h2 := by
    simp only [decide_eq_true_eq] at *
    rw [cmpB_neg] at *
    exact bl_trans h1 h2
  ntrans x y z h1 h2 := by
    simp only [decide_eq_false_iff_not] at *
    rw [cmpB_neg] at *
    intro h3
    rw [Bool.not_eq_true] at h1 h2
    cases h4 : Op.bytesLess y.1 x.1 with
    | true => rw [bl_trans h4 h3] at h2; cases h2
    | false =>
      have := bl_total _ _ h1 h4
      rw [this, h2] at h3; cases h3
theorem sortT_spec (l : List Tg) (h : l.length < 4611686018427387904) : (sortT l).Perm l ∧ (sortT l).Pairwise (fun x y => Op.bytesLess y.1 x.1 = false) := by
  have hs : l.toArray.size = l.length := by simp
  obtain ⟨h1, h2⟩ := pdq_sorts (fun x y : Tg => decide (cmpB x.1 y.1 < 0)) swoT l.toArray 0 l.toArray.size (Lib.bitLen l.toArray.size) true true (Nat.zero_le _) (Nat.le_refl _) (Or.inl rfl)
  rw [hs] at h1 h2
  unfold sortT
  generalize pdq (fun x y : Tg => decide (cmpB x.1 y.1 < 0)) l.toArray 0 l.length (Lib.bitLen l.length) true true = d at h1 h2
  obtain ⟨p1, p2, p3⟩ := h1
  rw [hs] at p1
  constructor
  · rw [show d.extract 0 l.length = d by rw [← p1]; simp, show l.toArray.extract 0 l.length = l.toArray by simp] at p3
    simpa using p3
  · rw [List.pairwise_iff_getElem]
    intro i j hi hj hij
    have hi' : i < d.size := by simpa using hi
    have hj' : j < d.size := by simpa using hj
    have := h2 i j (Nat.zero_le _) hij (by omega)
    simp only [decide_eq_false_iff_not] at this
    rw [cmpB_neg, Bool.not_eq_true] at this
    rw [getElem!_pos d i hi', getElem!_pos d j hj'] at this
    simpa using this
theorem tagE_len : ∀ (n : Nat) (xs : LLC), (tagE n xs).length = xs.length
  | _, [] => rfl
  | n, x :: r => by simp [tagE, tagE_len]
theorem tagE_get : ∀ (n : Nat) (xs : LLC) (k : Nat) (h : k < xs.length), (tagE n xs)[k]'(by rw [tagE_len]; exact h) = ((xs[k].headD .pnil).st, n + k)
  | n, x :: r, 0, _ => rfl
  | n, x :: r, k + 1, h => by
    have := tagE_get (n + 1) r k (by simpa using h)
    simp only [tagE, List.getElem_cons_succ, this]
    congr 1; omega
theorem tagE_mem {xs : List (List C)} {t : Tg} (h : t ∈ tagE 0 xs) : ∃ h : t.2 < xs.length, t.1 = (xs[t.2].headD .pnil).st := by
  obtain ⟨k, hk, rfl⟩ := List.getElem_of_mem h
  rw [tagE_len] at hk
  rw [tagE_get 0 xs k hk]
  simp only [Nat.zero_add]
  exact ⟨hk, trivial⟩
theorem tagE_map (xs : LLC) : (tagE 0 xs).map (fun t => xs.getD t.2 []) = xs := by
  refine List.ext_getElem (by simp [tagE_len]) fun k h1 h2 => ?_
  rw [List.getElem_map, tagE_get 0 xs k h2]
  simp [List.getD_eq_getElem?_getD, h2]
theorem sortX_perm (xs : LLC) (h : xs.length < 4611686018427387904) : (sortX xs).Perm xs := by
  have := (sortT_spec (tagE 0 xs) (by rw [tagE_len]; exact h)).1.map fun t => xs.getD t.2 []
  rw [tagE_map] at this
  exact this
theorem sortX_len (xs : LLC) (h : xs.length < 4611686018427387904) : (sortX xs).length = xs.length := (sortX_perm xs h).length_eq
end Go.Proofs.YtgaabjmbnomimaaDoor
namespace Go.Proofs
open Go.Shelf
def Tryd.lays197_ren : Go.Shelf.Ren := ⟨fun | 197 => 183 | 260 => 184 | n => n, fun | 9 => 9 | 21 => 21 | 3 => 3 | 4 => 4 | 5 => 5 | 105 => 206 | 119 => 208 | 0 => 0 | 46 => 158 | 139 => 211 | 138 => 210 | n => n, fun | 3 => 1 | 4 => 2 | n => n⟩
theorem Tryd.lays197 : Go.Proofs.Lays.n197 Tryd.prog Tryd.lays197_ren := {
  mixed := by kernel_rfl
  f197 := Tryd.func183.trans (congrArg some (by kernel_rfl))
  f260 := Tryd.func184.trans (congrArg some (by kernel_rfl))
  t0 := Tryd.underlying0
  a0 := Tryd.isAgg0
  z0 := Tryd.sizeOf0
  v0 := Tryd.zeroValue0
  t3 := Tryd.underlying3
  a3 := Tryd.isAgg3
  z3 := Tryd.sizeOf3
  v3 := Tryd.zeroValue3
  t4 := Tryd.underlying4
  a4 := Tryd.isAgg4
  z4 := Tryd.sizeOf4
  v4 := Tryd.zeroValue4
  t5 := Tryd.underlying5
  a5 := Tryd.isAgg5
  z5 := Tryd.sizeOf5
  v5 := Tryd.zeroValue5
  t9 := Tryd.underlying9
  a9 := Tryd.isAgg9
  z9 := Tryd.sizeOf9
  v9 := Tryd.zeroValue9
  t21 := Tryd.underlying21
  a21 := Tryd.isAgg21
  z21 := Tryd.sizeOf21
  v21 := Tryd.zeroValue21
  t46 := Tryd.underlying158
  a46 := Tryd.isAgg158
  z46 := Tryd.sizeOf158
  v46 := Tryd.zeroValue158
  t105 := Tryd.underlying206
  a105 := Tryd.isAgg206
  z105 := Tryd.sizeOf206
  v105 := Tryd.zeroValue206
  t119 := Tryd.underlying208
  a119 := Tryd.isAgg208
  z119 := Tryd.sizeOf208
  t138 := Tryd.underlying210
  a138 := Tryd.isAgg210
  z138 := Tryd.sizeOf210
  v138 := Tryd.zeroValue210
  t139 := Tryd.underlying211
  a139 := Tryd.isAgg211
  z139 := Tryd.sizeOf211
  v139 := Tryd.zeroValue211
  g3 := by kernel_rfl
  g4 := by kernel_rfl }
def Tryd.lays106_ren : Go.Shelf.Ren := ⟨fun | 106 => 75 | 213 => 129 | 265 => 162 | n => n, fun | 9 => 9 | 3 => 3 | n => n, fun | n => n⟩
theorem Tryd.lays106 : Go.Proofs.Lays.n106 Tryd.prog Tryd.lays106_ren := {
  mixed := by kernel_rfl
  f106 := Tryd.func75.trans (congrArg some (by kernel_rfl))
  f213 := Tryd.func129.trans (congrArg some (by kernel_rfl))
  f265 := Tryd.func162.trans (congrArg some (by kernel_rfl))
  t3 := Tryd.underlying3
  a3 := Tryd.isAgg3
  z3 := Tryd.sizeOf3
  v3 := Tryd.zeroValue3
  t9 := Tryd.underlying9
  a9 := Tryd.isAgg9
  z9 := Tryd.sizeOf9
  v9 := Tryd.zeroValue9 }
def Tryd.sortE_ren : Go.Shelf.Ren := ⟨fun | 6 => 73 | 15 => 128 | 14 => 127 | 28 => 160 | 29 => 161 | 20 => 152 | 21 => 153 | 22 => 154 | 23 => 155 | 24 => 156 | 25 => 157 | 26 => 158 | 27 => 159 | 46 => 172 | 47 => 173 | 48 => 174 | 49 => 175 | 50 => 176 | 57 => 182 | n => n, fun | 22 => 55 | 24 => 65 | 25 => 116 | 3 => 3 | 39 => 158 | 0 => 0 | 53 => 184 | 55 => 186 | 4 => 4 | 46 => 178 | 45 => 177 | 50 => 107 | 5 => 5 | 9 => 9 | 66 => 190 | 70 => 194 | 76 => 203 | 77 => 204 | n => n, fun | n => n⟩
theorem Tryd.sortE : Go.Proofs.SlLaysF0.n6 Tryd.prog Tryd.sortE_ren := {
  mixed := by kernel_rfl
  f6 := ⟨Tryd.f73.name, by decide, Tryd.func73.trans (congrArg some (by kernel_rfl))⟩
  f14 := ⟨Tryd.f127.name, by decide, Tryd.func127.trans (congrArg some (by kernel_rfl))⟩
  f15 := Tryd.func128.trans (congrArg some (by kernel_rfl))
  f20 := ⟨Tryd.f152.name, by decide, Tryd.func152.trans (congrArg some (by kernel_rfl))⟩
  f21 := ⟨Tryd.f153.name, by decide, Tryd.func153.trans (congrArg some (by kernel_rfl))⟩
  f22 := ⟨Tryd.f154.name, by decide, Tryd.func154.trans (congrArg some (by kernel_rfl))⟩
  f23 := ⟨Tryd.f155.name, by decide, Tryd.func155.trans (congrArg some (by kernel_rfl))⟩
  f24 := ⟨Tryd.f156.name, by decide, Tryd.func156.trans (congrArg some (by kernel_rfl))⟩
  f25 := ⟨Tryd.f157.name, by decide, Tryd.func157.trans (congrArg some (by kernel_rfl))⟩
  f26 := ⟨Tryd.f158.name, by decide, Tryd.func158.trans (congrArg some (by kernel_rfl))⟩
  f27 := ⟨Tryd.f159.name, by decide, Tryd.func159.trans (congrArg some (by kernel_rfl))⟩
  f28 := Tryd.func160.trans (congrArg some (by kernel_rfl))
  f29 := Tryd.func161.trans (congrArg some (by kernel_rfl))
  f46 := ⟨Tryd.f172.name, by decide, Tryd.func172.trans (congrArg some (by kernel_rfl))⟩
  f47 := Tryd.func173.trans (congrArg some (by kernel_rfl))
  f48 := Tryd.func174.trans (congrArg some (by kernel_rfl))
  f49 := ⟨Tryd.f175.name, by decide, Tryd.func175.trans (congrArg some (by kernel_rfl))⟩
  f50 := ⟨Tryd.f176.name, by decide, Tryd.func176.trans (congrArg some (by kernel_rfl))⟩
  f57 := ⟨Tryd.f182.name, by decide, Tryd.func182.trans (congrArg some (by kernel_rfl))⟩
  t0 := Tryd.underlying0
  a0 := Tryd.isAgg0
  z0 := Tryd.sizeOf0
  v0 := Tryd.zeroValue0
  t3 := Tryd.underlying3
  a3 := Tryd.isAgg3
  z3 := Tryd.sizeOf3
  v3 := Tryd.zeroValue3
  t4 := Tryd.underlying4
  a4 := Tryd.isAgg4
  z4 := Tryd.sizeOf4
  v4 := Tryd.zeroValue4
  t5 := Tryd.underlying5
  a5 := Tryd.isAgg5
  z5 := Tryd.sizeOf5
  v5 := Tryd.zeroValue5
  t9 := Tryd.underlying9
  a9 := Tryd.isAgg9
  z9 := Tryd.sizeOf9
  v9 := Tryd.zeroValue9
  t22 := Tryd.underlying55
  a22 := Tryd.isAgg55
  z22 := Tryd.sizeOf55
  v22 := Tryd.zeroValue55
  t25 := Tryd.underlying116
  a25 := Tryd.isAgg116
  z25 := Tryd.sizeOf116
  v25 := Tryd.zeroValue116
  t39 := Tryd.underlying158
  a39 := Tryd.isAgg158
  z39 := Tryd.sizeOf158
  v39 := Tryd.zeroValue158
  t45 := Tryd.underlying177
  a45 := Tryd.isAgg177
  z45 := Tryd.sizeOf177
  v45 := Tryd.zeroValue177
  t46 := Tryd.underlying178
  a46 := Tryd.isAgg178
  z46 := Tryd.sizeOf178
  v46 := Tryd.zeroValue178
  t50 := Tryd.underlying107
  a50 := Tryd.isAgg107
  z50 := Tryd.sizeOf107
  v50 := Tryd.zeroValue107
  t53 := Tryd.underlying184
  a53 := Tryd.isAgg184
  z53 := Tryd.sizeOf184
  v53 := Tryd.zeroValue184
  t55 := Tryd.underlying186
  a55 := Tryd.isAgg186
  z55 := Tryd.sizeOf186
  v55 := Tryd.zeroValue186
  t66 := Tryd.underlying190
  a66 := Tryd.isAgg190
  z66 := Tryd.sizeOf190
  v66 := Tryd.zeroValue190
  t70 := Tryd.underlying194
  a70 := Tryd.isAgg194
  z70 := Tryd.sizeOf194
  v70 := Tryd.zeroValue194
  t76 := Tryd.underlying203
  a76 := Tryd.isAgg203
  z76 := Tryd.sizeOf203
  v76 := Tryd.zeroValue203
  t77 := Tryd.underlying204
  a77 := Tryd.isAgg204
  z77 := Tryd.sizeOf204
  v77 := Tryd.zeroValue204 }
end Go.Proofs
namespace Go.Proofs.YtgaabjmbnomimaaDoor
open Go Go.RowKit
theorem inc_walk (b : Nat) (v : Int) (x y : Value) (w : World) (hb : w.heap[b]? = some (.cells #[.int .i64 v] 3 (0, 0))) :
    Calls Tryd.prog 170 #[x, y, .pointer (some ⟨b, 0, none⟩)] w fun e w' => e = .returned (.tuple #[]) ∧ w' = w.setCell ⟨b, 0, none⟩ (.int .i64 (wrap64 (v + 1))) := by
  have h1 : w.cell? ⟨b, 0, none⟩ = some (.int .i64 v) := by simp [World.cell?, hb]
  have h2 : w.frozen? ⟨b, 0, none⟩ = false := by simp [World.frozen?, hb]
  go_enter Tryd.func170, Tryd.ntmps170
  go_wp2
  go_end0
  exact ⟨rfl, rfl⟩
structure Nx (w w' : World) (b : Nat) (v : Int) : Prop where
  os : w'.os = w.os
  tape : w'.tape = w.tape
  output : w'.output = w.output
  size : w.heap.size ≤ w'.heap.size
  keep : ∀ c, c < w.heap.size → c ≠ b → w'.heap[c]? = w.heap[c]?
  box : w'.heap[b]? = some (.cells #[.int .i64 v] 3 (0, 0))
theorem Nx.below {w w1 w2 : World} {b : Nat} {v : Int} (h : Nx w w1 b v) (hb : b < w.heap.size) (k : Below w1.heap.size w1 w2) : Nx w w2 b v :=
  ⟨k.os.trans h.os, k.tape.trans h.tape, k.output.trans h.output, Nat.le_trans h.size k.size, fun c hc hne => (k.block c (Nat.lt_of_lt_of_le hc h.size)).trans (h.keep c hc hne), (k.block b (Nat.lt_of_lt_of_le hb h.size)).trans h.box⟩
theorem setCell_box {w : World} {b : Nat} {x : Value} {t : TypeId} (h : w.heap[b]? = some (.cells #[x] t (0, 0))) (y : Value) : (w.setCell ⟨b, 0, none⟩ y).heap[b]? = some (.cells #[y] t (0, 0)) ∧ (∀ c, c ≠ b → (w.setCell ⟨b, 0, none⟩ y).heap[c]? = w.heap[c]?) ∧ (w.setCell ⟨b, 0, none⟩ y).heap.size = w.heap.size := by
  have hlt : b < w.heap.size := (Array.getElem?_eq_some_iff.1 h).1
  refine ⟨?_, fun c hc => ?_, ?_⟩
  · simp [World.setCell, Array.getElem?_modify, h]
  · simp [World.setCell, Array.getElem?_modify, Ne.symm hc]
  · simp [World.setCell]
theorem Nx.set {w w1 : World} {b : Nat} {v : Int} (h : Nx w w1 b v) (u : Int) : Nx w (w1.setCell ⟨b, 0, none⟩ (.int .i64 u)) b u := by
  obtain ⟨h1, h2, h3⟩ := setCell_box h.box (.int .i64 u)
  exact ⟨h.os, h.tape, h.output, by rw [h3]; exact h.size, fun c hc hne => (h2 c hne).trans (h.keep c hc hne), h1⟩
theorem each_walk (s : ByteArray) (w : World) (b : Nat) (v : Int) (hb : w.heap[b]? = some (.cells #[.int .i64 v] 3 (0, 0))) (h2 : 3 ≤ b) (hv : 0 ≤ v) (hvs : v + s.size < 9223372036854775808) (hT : Lib.Utf8Tabs 1 2 w) (R : Option Nat) (hR : runesN s s.size 0 = R) :
    Calls Tryd.prog 180 #[.string s, .func (.func 170) #[] #[.pointer (some ⟨b, 0, none⟩)]] w fun e w' => ∃ v', Nx w w' b v' ∧ match R with
      | some n => e = .returned (.tuple #[]) ∧ v' = v + n
      | none => ∃ x, e = .panicked [{ v := .iface 199 x, recovered := false }] := by
  have hbl : b < w.heap.size := (Array.getElem?_eq_some_iff.1 hb).1
  have hnx0 : Nx w w b v := ⟨rfl, rfl, rfl, Nat.le_refl _, fun _ _ _ => rfl, hb⟩
  go_enter Tryd.func180, Tryd.ntmps180
  go_wp2
  go_loopw [] (fun wr => ∃ (pos fuel cnt : Nat), wr.heap[w.heap.size]? = some (.stringIter s pos) ∧ Nx w wr b (v + cnt) ∧ Hid (R = (runesN s fuel pos).map (· + cnt)) ∧ s.size ≤ pos + fuel ∧ cnt ≤ pos ∧ cnt ≤ s.size) (fun wr => s.size - wr.iterPos w.heap.size)
  case atStart =>
    refine ⟨0, s.size, 0, World.iter_heap w s 0, ?_, ?_, by omega, by omega, by omega⟩
    · have := hnx0.below hbl ((Below.refl _ _).alloc (Nat.le_refl _) (.stringIter s 0))
      simpa [World.iter] using this
    · show R = _
      rw [hR]; cases R <;> simp
  case round =>
    obtain ⟨pos, fuel, cnt, hit, hnx, HS, hf, hc1, hc2⟩ := hrel
    have hpos0 := iterPos_of hit
    obtain ⟨c, hc⟩ : ∃ c, (Utf8.decode s pos).1 = c := ⟨_, rfl⟩
    obtain ⟨wd, hwd⟩ : ∃ wd, (Utf8.decode s pos).2 = wd := ⟨_, rfl⟩
    by_cases hp : pos < s.size
    · have hnext : ∀ ty, (Instr.next (.pointer (some ⟨w.heap.size, 0, none⟩)) true ty).run Tryd.prog wr = _ := fun ty => Lib.run_next_any_at wr w.heap.size s pos ty hit hp
      rw [hc, hwd] at hnext
      have hwd1 : 1 ≤ wd := by rw [← hwd]; exact width_pos s pos
      obtain ⟨W1, hW1⟩ : ∃ W1, W1 = wr.iterAt w.heap.size s (pos + wd) := ⟨_, rfl⟩
      rw [← hW1] at hnext
      have hit2 : W1.heap[w.heap.size]? = some (.stringIter s (pos + wd)) := by rw [hW1]; exact Lib.iterAt_heap wr _ s pos _ hit
      have hnx1 : Nx w W1 b (v + cnt) := by
        subst hW1
        exact ⟨hnx.os, hnx.tape, hnx.output, by rw [Lib.iterAt_size]; exact hnx.size, fun c hc hne => (Lib.iterAt_other wr _ c s _ (by omega)).trans (hnx.keep c hc hne), (Lib.iterAt_other wr _ b s _ (by omega)).trans hnx.box⟩
      have hbox1 := hnx1.box
      clear hW1 hit hnx
      have hinc := inc_walk b (v + cnt) (.int .i64 pos) (.int .i32 c) W1 hbox1
      by_cases hbad : c = 65533
      · subst hbad
        have hext : (s.extract pos s.size).data.toList = s.data.toList.drop pos := by
          simp only [ByteArray.data_extract, Array.toList_extract, List.extract_eq_drop_take]
          exact List.take_of_length_le (by simp)
        have hgo : Lib.decodeGo (s.extract pos s.size) = (65533, wd) := by
          have h1 : (s.extract pos s.size).size ≠ 0 := by simp; omega
          unfold Lib.decodeGo
          rw [if_neg h1, ← Lib.decodeL_drop, List.drop_zero, hext, Lib.decodeL_drop, ← hc, ← hwd]
        have hT1 : Lib.Utf8Tabs 1 2 W1 := by
          have k0 : W1.heap[1]? = w.heap[1]? := hnx1.keep 1 (by omega) (by omega)
          have k1 : W1.heap[2]? = w.heap[2]? := hnx1.keep 2 (by omega) (by omega)
          refine ⟨fun c hc => ?_, fun i hi => ⟨?_, ?_⟩⟩
          · have := hT.1 c hc
            simp only [World.cell?, k0] at this ⊢; exact this
          · have := (hT.2 i hi).1
            simp only [World.cell?, k1] at this ⊢; exact this
          · have := (hT.2 i hi).2
            simp only [World.cell?, k1] at this ⊢; exact this
        have cD := Any.utf8_DecodeRuneInString Tryd.lays197 (s.extract pos s.size) W1 hT1
        rw [hgo] at cD
        go_wp2_with (fail)
        refine Calls.mono cD ?_
        rintro e w2 ⟨rfl, hbw⟩
        simp only []
        go_at_K
        have hnx2 := hnx1.below hbl hbw
        obtain ⟨f, rfl⟩ : ∃ f, fuel = f + 1 := ⟨fuel - 1, by omega⟩
        by_cases hw2 : wd < 2
        · have e : R = none := by
            have := HS.out
            rw [this, runesN_step hc hwd hp, if_pos ⟨rfl, hw2⟩]; rfl
          subst e
          have hw2' : (wd : Int) < 2 := by omega
          go_wp2
          exact ⟨rfl, ⟨_, hnx2⟩, _, rfl⟩
        · have hit3 : w2.heap[w.heap.size]? = some (.stringIter s (pos + wd)) := (hbw.block _ (Array.getElem?_eq_some_iff.1 hit2).1).trans hit2
          have hinc := inc_walk b (v + cnt) (.int .i64 pos) (.int .i32 65533) w2 hnx2.box
          have hw2' : ¬ (wd : Int) < 2 := by omega
          go_wp2_with (fail)
          refine hinc.mono ?_
          rintro e w' ⟨rfl, rfl⟩
          simp only []
          go_at_K
          try go_wp2
          obtain ⟨g1, g2, g9003⟩ := setCell_box hnx2.box (.int .i64 (wrap64 (v + cnt + 1)))
          have hit4 := (g2 w.heap.size (by omega)).trans hit3
          have hw64 : wrap64 (v + cnt + 1) = v + ((cnt + 1 : Nat) : Int) := by (have : wrap64 (v + cnt + 1) = v + cnt + 1 := by unfold wrap64; omega); rw [this]; push_cast; omega
          refine ⟨⟨pos + wd, f, cnt + 1, hit4, by rw [hw64]; exact hnx2.set _, ?_, by omega, by omega, by omega⟩, ?_⟩
          · have := HS.out
            show R = _
            rw [this, runesN_step hc hwd hp, if_neg (by omega)]
            cases runesN s f (pos + wd) <;> simp; omega
          · rw [iterPos_of hit4, hpos0]; omega
      · have hbad' : ((c : Int) == 65533) = false := by simp; omega
        go_wp2_with (fail)
        refine hinc.mono ?_
        rintro e w' ⟨rfl, rfl⟩
        simp only []
        go_at_K
        try go_wp2
        obtain ⟨g1, g2, g9003⟩ := setCell_box hbox1 (.int .i64 (wrap64 (v + cnt + 1)))
        have hit3 := (g2 w.heap.size (by omega)).trans hit2
        have hw64 : wrap64 (v + cnt + 1) = v + ((cnt + 1 : Nat) : Int) := by (have : wrap64 (v + cnt + 1) = v + cnt + 1 := by unfold wrap64; omega); rw [this]; push_cast; omega
        refine ⟨⟨pos + wd, fuel - 1, cnt + 1, hit3, by rw [hw64]; exact hnx1.set _, ?_, by omega, by omega, by omega⟩, ?_⟩
        · have := HS.out
          show R = _
          rw [this]
          obtain ⟨f, rfl⟩ : ∃ f, fuel = f + 1 := ⟨fuel - 1, by omega⟩
          rw [runesN_step hc hwd hp, if_neg (by omega), Nat.add_sub_cancel]
          cases runesN s f (pos + wd) <;> simp; omega
        · rw [iterPos_of hit3, hpos0]; omega
    · have hnext : ∀ ty, (Instr.next (.pointer (some ⟨w.heap.size, 0, none⟩)) true ty).run Tryd.prog wr = _ := fun ty => Lib.run_next_end_at wr w.heap.size s pos ty hit hp
      have e : R = some cnt := by
        have := HS.out
        rw [this, runesN_end s hp]; simp
      subst e
      go_wp2
      go_end0
      exact ⟨hnx, rfl⟩
theorem catch_panicking (b : Nat) (x : Value) (u : Value) (older : List PanicEntry) (w : World) (hb : w.heap[b]? = some (.cells #[.bool false] 4 (0, 0))) :
    CallsD Tryd.prog 179 #[.pointer (some ⟨b, 0, none⟩)] (.panicking ({ v := .iface 199 u, recovered := false } :: older)) w fun e u' w' =>
      e = .returned (.tuple #[]) ∧ u' = .panicking ({ v := .iface 199 u, recovered := true } :: older) ∧ w' = (w.setCell ⟨b, 0, none⟩ (.bool true)).setCell ⟨b, 0, none⟩ (.bool false) := by
  have h1 : w.cell? ⟨b, 0, none⟩ = some (.bool false) := by simp [World.cell?, hb]
  have h2 : w.frozen? ⟨b, 0, none⟩ = false := by simp [World.frozen?, hb]
  refine callsD_of_wpS Tryd.func179 rfl fun c₀ cs hu => ?_
  apply wpS_seq
  apply wpS_region
  simp [wpOpsS, go_sem, recoverD, hu, Tryd.ntmps179, Exit.thenS]
  apply wpS_seq
  apply wpS_region
  simp [wpOpsS, go_sem, Exit.thenS]
  refine wpS_cond (t := true) (by simp [Act.eval, Array.replicate]) ?_
  simp only [if_true]
  apply wpS_seq
  apply wpS_region
  have h88 := Tryd.underlying199
  have hta : ∀ (w : World), (Instr.typeAssert (.iface 199 u) 20 199 true).run Tryd.prog w = .ok (.tuple #[u, .bool true]) w := fun w => by
    simp [Instr.typeAssert, Sem.run_bind, run_underlying h88, Result.andThen, Sem.run_pure]
  simp [wpOpsS, go_sem, hta, h1, h2, Exit.thenS]
  apply wpS_region
  simp [wpOpsS, go_sem, h1, h2, bodyPostS, results, Tryd.results179]
theorem catch_idle (b : Nat) (w : World) :
    CallsD Tryd.prog 179 #[.pointer (some ⟨b, 0, none⟩)] .returning w fun e u' w' => e = .returned (.tuple #[]) ∧ u' = .returning ∧ w' = w := by
  have hnn : ∀ w, (binOp .neq 20 .nilIface .nilIface).run Tryd.prog w = .ok (.bool false) w := fun w => Lib.run_neq_nil_nil w Tryd.underlying20
  refine callsD_of_wpS Tryd.func179 rfl fun c₀ cs hu => ?_
  apply wpS_seq
  apply wpS_region
  simp [wpOpsS, go_sem, recoverD, hu, Tryd.ntmps179, Exit.thenS]
  apply wpS_seq
  apply wpS_region
  simp [wpOpsS, go_sem, hnn, Exit.thenS]
  refine wpS_cond (t := false) (by simp [Act.eval, Array.replicate]) ?_
  simp only [Bool.false_eq_true, if_false]
  refine wpS_of_wp (wp_skip ?_)
  cases c₀
  simp_all [bodyPostS, results, Tryd.results179]
theorem Utf8Tabs.alloc {w : World} (hT : Lib.Utf8Tabs 1 2 w) (h : 3 ≤ w.heap.size) (o : Obj) : Lib.Utf8Tabs 1 2 (w.alloc o) := by
  have hb : Below w.heap.size w (w.alloc o) := (Below.refl _ _).alloc (Nat.le_refl _) o
  have k0 := hb.block 1 (by omega)
  have k1 := hb.block 2 (by omega)
  refine ⟨fun c hc => ?_, fun i hi => ⟨?_, ?_⟩⟩
  · have := hT.1 c hc
    simp only [World.cell?, k0] at this ⊢; exact this
  · have := (hT.2 i hi).1
    simp only [World.cell?, k1] at this ⊢; exact this
  · have := (hT.2 i hi).2
    simp only [World.cell?, k1] at this ⊢; exact this
theorem through_walk (s : ByteArray) (w : World) (b : Nat) (v : Int) (hb : w.heap[b]? = some (.cells #[.int .i64 v] 3 (0, 0))) (h2 : 3 ≤ b) (hv : 0 ≤ v) (hvs : v + s.size < 9223372036854775808) (hT : Lib.Utf8Tabs 1 2 w) (R : Option Nat) (hR : runesN s s.size 0 = R) :
    Calls Tryd.prog 169 #[.string s, .func (.func 170) #[] #[.pointer (some ⟨b, 0, none⟩)]] w fun e w' => ∃ v', Nx w w' b v' ∧ e = .returned (.bool R.isSome) ∧ ∀ n, R = some n → v' = v + n := by
  have hbl : b < w.heap.size := (Array.getElem?_eq_some_iff.1 hb).1
  obtain ⟨W1, hW1⟩ : ∃ W1, W1 = w.alloc (.cells #[.bool false] 4 (0, 0)) := ⟨_, rfl⟩
  have hbelow : Below w.heap.size w W1 := by rw [hW1]; exact (Below.refl _ _).alloc (Nat.le_refl _) _
  have hb1 : W1.heap[b]? = some (.cells #[.int .i64 v] 3 (0, 0)) := (hbelow.block b hbl).trans hb
  have hT1 : Lib.Utf8Tabs 1 2 W1 := by rw [hW1]; exact Utf8Tabs.alloc hT (by omega) _
  have hok : W1.heap[w.heap.size]? = some (.cells #[.bool false] 4 (0, 0)) := by rw [hW1]; exact World.alloc_heap_new w _
  have hsz1 : w.heap.size < W1.heap.size := (Array.getElem?_eq_some_iff.1 hok).1
  have hE := each_walk s W1 b v hb1 h2 hv hvs hT1 R hR
  have hmf : ∀ (fn : Fn) (first cap : Array Value) (w : World), (Instr.makeFunc fn first cap).run Tryd.prog w = .ok (.func fn first cap) w := fun _ _ _ _ => rfl
  go_enter_defers Tryd.func169, Tryd.ntmps169
  go_wp2_with (fail)
  rw [hW1] at hE
  refine hE.mono ?_
  rintro e w2 ⟨v', hn, he⟩
  have hok2 : w2.heap[w.heap.size]? = some (.cells #[.bool false] 4 (0, 0)) := (hn.keep _ (hW1 ▸ hsz1) (by omega)).trans (hW1 ▸ hok)
  have hnx : Nx w w2 b v' := by
    subst hW1
    exact ⟨hn.os, hn.tape, hn.output, Nat.le_trans hbelow.size hn.size, fun c hc hne => (hn.keep c (Nat.lt_of_lt_of_le hc hbelow.size) hne).trans (hbelow.block c hc), hn.box⟩
  have hset : ∀ (w3 : World) (y : Value), Nx w w3 b v' → w3.heap[w.heap.size]? = some (.cells #[y] 4 (0, 0)) → ∀ z, Nx w (w3.setCell ⟨w.heap.size, 0, none⟩ z) b v' ∧ (w3.setCell ⟨w.heap.size, 0, none⟩ z).heap[w.heap.size]? = some (.cells #[z] 4 (0, 0)) := by
    intro w3 y h3 h4 z
    obtain ⟨g1, g2, g9003⟩ := setCell_box h4 z
    exact ⟨⟨h3.os, h3.tape, h3.output, by rw [g9003]; exact h3.size, fun c hc hne => (g2 c (by omega)).trans (h3.keep c hc hne), (g2 b (by omega)).trans h3.box⟩, g1⟩
  cases R with
  | none =>
    obtain ⟨x, rfl⟩ := he
    simp only []
    refine leaves_cons (f := 179) (args := #[.pointer (some ⟨w.heap.size, 0, none⟩)]) (by simp) (by simp [go_sem]) ?_
    refine (catch_panicking w.heap.size x x [] _ hok2).mono ?_
    rintro e u' w'' ⟨rfl, rfl, rfl⟩
    obtain ⟨n1, b1⟩ := hset w2 _ hnx hok2 (.bool true)
    obtain ⟨n2, b2⟩ := hset _ _ n1 b1 (.bool false)
    have c2 : ((w2.setCell ⟨w.heap.size, 0, none⟩ (.bool true)).setCell ⟨w.heap.size, 0, none⟩ (.bool false)).cell? ⟨w.heap.size, 0, none⟩ = some (.bool false) := by simp [World.cell?, b2]
    simp [Leaves, settle, results, Tryd.results169, go_sem, c2]
    exact ⟨v', n2⟩
  | some n =>
    obtain ⟨rfl, rfl⟩ := he
    simp only []
    rename_i hk1 hk2
    have c1 : w2.cell? ⟨w.heap.size, 0, none⟩ = some (.bool false) := by simp [World.cell?, hok2]
    have f1 : w2.frozen? ⟨w.heap.size, 0, none⟩ = false := by simp [World.frozen?, hok2]
    obtain ⟨n1, b1⟩ := hset w2 _ hnx hok2 (.bool true)
    have c2 : (w2.setCell ⟨w.heap.size, 0, none⟩ (.bool true)).cell? ⟨w.heap.size, 0, none⟩ = some (.bool true) := by simp [World.cell?, b1]
    apply hk2
    go_wp2
    refine leaves_cons (f := 179) (args := #[.pointer (some ⟨w.heap.size, 0, none⟩)]) (by simp) (by simp [go_sem]) ?_
    refine (catch_idle w.heap.size _).mono ?_
    rintro e u' w'' ⟨rfl, rfl, rfl⟩
    simp [Leaves, settle, results, Tryd.results169, go_sem, c2]
    exact n1
set_option maxRecDepth 100000 in
theorem runes_walk (s : ByteArray) (w : World) (h2 : 3 ≤ w.heap.size) (hvs : s.size < 9223372036854775808) (hT : Lib.Utf8Tabs 1 2 w) (R : Option Nat) (hR : runesN s s.size 0 = R) :
    Calls Tryd.prog 148 #[.string s] w fun e w' => e = .returned (.int .i64 (runesI R)) ∧ Below w.heap.size w w' := by
  have hok : (w.alloc (.cells #[.int .i64 0] 3 (0, 0))).heap[w.heap.size]? = some (.cells #[.int .i64 0] 3 (0, 0)) := World.alloc_heap_new w _
  have hbelow : Below w.heap.size w (w.alloc (.cells #[.int .i64 0] 3 (0, 0))) := (Below.refl _ _).alloc (Nat.le_refl _) _
  have hE := through_walk s _ w.heap.size 0 hok h2 (by omega) (by omega) (Utf8Tabs.alloc hT h2 _) R hR
  have hset := (setCell_box hok (.int .i64 0)).1
  have hmf : ∀ (fn : Fn) (first cap : Array Value) (w : World), (Instr.makeFunc fn first cap).run Tryd.prog w = .ok (.func fn first cap) w := fun _ _ _ _ => rfl
  go_enter Tryd.func148, Tryd.ntmps148
  go_wp2_with (fail)
  refine hE.mono ?_
  rintro e w2 ⟨v', hn, rfl, hv⟩
  have hbel : Below w.heap.size w w2 := ⟨hn.os, hn.tape, hn.output, Nat.le_trans hbelow.size hn.size, fun c hc => (hn.keep c (Nat.lt_of_lt_of_le hc hbelow.size) (by omega)).trans (hbelow.block c hc)⟩
  have c1 : w2.cell? ⟨w.heap.size, 0, none⟩ = some (.int .i64 v') := by simp [World.cell?, hn.box]
  rename_i hk1 hk2
  cases R with
  | none =>
    simp only [Option.isSome_none]
    clear hE hn hT hok hbelow hset hv
    apply hk2
    go_wp2
    try go_wp2
    first | (go_ret; exact ⟨rfl, hbel⟩) | (go_ret2; exact ⟨rfl, hbel⟩) | (go_end0; exact ⟨rfl, hbel⟩) | (simp [bodyPost, results, Tryd.results148, Act.put]; exact hbel)
  | some n =>
    obtain rfl : v' = (n : Int) := by have := hv n rfl; omega
    simp only [Option.isSome_some]
    clear hE hn hT hok hbelow hset hv
    apply hk2
    go_wp2
    try go_wp2
    first | (go_ret; exact ⟨rfl, hbel⟩) | (go_ret2; exact ⟨rfl, hbel⟩) | (go_end0; exact ⟨rfl, hbel⟩) | (simp [bodyPost, results, Tryd.results148, Act.put]; exact hbel)
end Go.Proofs.YtgaabjmbnomimaaDoor
namespace Go.Proofs.YtgaabjmbnomimaaDoor
open Go Go.Ev
def Kw (w : World) : Prop := Lib.Utf8Tabs 1 2 w ∧ 3 ≤ w.heap.size
theorem tabs_of {w0 w : World} (h : Lib.Utf8Tabs 1 2 w0) (k0 : w.heap[1]? = w0.heap[1]?) (k1 : w.heap[2]? = w0.heap[2]?) : Lib.Utf8Tabs 1 2 w := by
  refine ⟨fun c hc => ?_, fun i hi => ⟨?_, ?_⟩⟩
  · have := h.1 c hc
    simp only [World.cell?, k0] at this ⊢; exact this
  · have := (h.2 i hi).1
    simp only [World.cell?, k1] at this ⊢; exact this
  · have := (h.2 i hi).2
    simp only [World.cell?, k1] at this ⊢; exact this
theorem based_tabs {w : World} {A : Nat → Prop} {bl : Bl} {H : Hp} (hcx : CtxOk Tryd.prog Kw bl.cx) (hH : RepH w A bl H) : Kw w := by
  obtain ⟨w0, h1, h2⟩ := hH.base
  obtain ⟨h3, h4⟩ := hcx.base w0 h1
  have hlt := hH.alt 2 (h2 2 (by omega)).1
  exact ⟨tabs_of h3 (h2 1 (by omega)).2 (h2 2 (by omega)).2, by omega⟩
theorem sound148 {args vals : List V} {H H' : Hp} (h : x148 args H = some (vals, H')) : Enter Tryd.prog 148 ∧ Sound Tryd.prog Kw 148 args H vals H' := by
  unfold x148 at h
  split at h
  case h_2 => simp at h
  rename_i s
  split at h <;> simp only [Option.some.injEq, Prod.mk.injEq, reduceCtorEq] at h
  rename_i hs
  obtain ⟨rfl, rfl⟩ := h
  refine ⟨fun args w => ?_, fun w A bl us hcx hH hargs => ?_⟩
  · simp only [callFunc, Sem.run_bind, run_program, Result.andThen_ok, Tryd.func148]
    rfl
  · obtain ⟨hl, hr⟩ := hargs
    match us, hl, hr with
    | [u], _, hr =>
      have hu := (hr 0 _ u rfl rfl).str_inv
      subst hu
      obtain ⟨hT, h2⟩ := based_tabs hcx hH
      have hsz : (⟨s.toArray⟩ : ByteArray).size = s.length := by simp [ByteArray.size]
      have hw := runes_walk ⟨s.toArray⟩ w h2 (by rw [hsz]; omega) hT _ rfl
      refine hw.mono ?_
      rintro e w' ⟨rfl, hb⟩
      have g : Grow w w' := ⟨hb.os, hb.tape, hb.output, hb.size, fun b hb' => hb.block b hb'⟩
      obtain ⟨q1, q2⟩ := grow hH g (N := fun _ => False) (fun b hb => hb.elim)
      refine ⟨_, bl, [_], rfl, ⟨rfl, fun j x u hj hu => ?_⟩, q1, q2, g.evo (fun b hb => .inl hb) (fun b hb => hb.elim .inl False.elim)⟩
      cases j with
      | zero =>
        simp at hj hu
        subst hj; subst hu
        rw [hsz]
        exact .int _ _
      | succ j => simp at hj
end Go.Proofs.YtgaabjmbnomimaaDoor
namespace Go.Proofs.YtgaabjmbnomimaaDoor
open Go Go.Ev Go.Sort
theorem compareBytes_eq : ∀ a b : List UInt8, Lib.compareBytes a b = cmpB a b
  | [], [] => rfl
  | [], _ :: _ => rfl
  | _ :: _, [] => rfl
  | a :: x, b :: y => by
    rw [Lib.compareBytes, compareBytes_eq x y]
    simp only [cmpB, Op.bytesLess, Bool.or_eq_true, decide_eq_true_eq, Bool.and_eq_true, beq_iff_eq]
    by_cases h1 : a < b
    · simp [h1]
    · by_cases h2 : b < a
      · have h3 : a ≠ b := fun e => by subst e; exact h1 h2
        simp [h1, h2, h3]
      · have e : a = b := by
          rw [UInt8.lt_iff_toNat_lt] at h1 h2
          exact UInt8.toNat_inj.1 (by omega)
        subst e
        simp [h1]
theorem compare_walk (s t : Bys) (w : World) : Calls Tryd.prog 75 #[.string ⟨s.toArray⟩, .string ⟨t.toArray⟩] w fun e w' => e = .returned (.int .i64 (cmpB s t)) ∧ w' = w := by
  have h := Any.strings_Compare Tryd.lays106 ⟨s.toArray⟩ ⟨t.toArray⟩ w
  rw [show (ByteArray.mk s.toArray).data.toList = s from rfl, show (ByteArray.mk t.toArray).data.toList = t from rfl, compareBytes_eq] at h
  exact h
set_option maxHeartbeats 2000000 in
theorem order_walk (p q : Bys) (v1 v2 : Value) (W : World) : Calls Tryd.prog 74 #[.agg #[.string ⟨p.toArray⟩, v1], .agg #[.string ⟨q.toArray⟩, v2]] W fun e w' => e = .returned (.int .i64 (cmpB p q)) ∧ ∃ n os', w' = grow (W.drewN n) os' := by
  have h1 := fun W' => compare_walk p q W'
  obtain ⟨s, hs⟩ : ∃ s, s = cmpB p q := ⟨_, rfl⟩
  simp only [← hs] at h1 ⊢
  clear hs
  go_enter Tryd.func74, Tryd.ntmps74
  go_wp2_with (go_at_call 75; refine (h1 _).mono ?_; rintro e w' ⟨rfl, rfl⟩)
  all_goals go_ret
  all_goals exact ⟨rfl, 0, _, by rw [alloc_eq_grow, alloc_eq_grow, grow_grow]; rfl⟩
theorem enter73 : Enter Tryd.prog 73 := fun args w => by
  simp only [callFunc, Sem.run_bind, run_program, Result.andThen_ok, Tryd.func73]
  rfl
theorem enter74 (args : Array Value) (w : World) : (callFunc 74 args).run Tryd.prog w = .ok (.enter 74 args) w := by
  simp only [callFunc, Sem.run_bind, run_program, Result.andThen_ok, Tryd.func74]
  rfl
theorem mixedOk : Tryd.prog.follows .mixedOrders = true := by kernel_rfl
noncomputable def E1 : Env := E0 (fun _ => none) (fun _ _ _ => none)
theorem empty73 : callN E1 40 73 [.buf 0 0 0 0, .fn 74 []] [.mem 2 0 []] = some ([], [.mem 2 0 []]) := by kernel_rfl
def encT (vs : Nat → Value) (t : Tg) : List Value := [.string ⟨t.1.toArray⟩, vs t.2]
theorem sort_walk (vs : Nat → Value) (hv : ∀ n, (vs n).oneCell' = true) (zs : List Tg) (b d cap : Nat) (w : World) (hH : HoldsK (encT vs) 2 w b d zs.toArray) (hb : b < w.heap.size) (hz : zs.length < 4611686018427387904) :
    Calls Tryd.prog 73 #[.slice (some ⟨b, d, none⟩) zs.length cap, .func (.func 74) #[] #[]] w fun e w' => e = .returned (.tuple #[]) ∧ ∃ n os, w' = sortWorldK (encT vs) 2 w b d n (sortT zs).toArray os := by
  have h := AnyQ.slices_SortFunc_eq Tryd.sortE 2 Tryd.isAgg65 Tryd.sizeOf65 (encT vs) (fun _ => rfl) (fun x v h => by
      simp only [encT, List.mem_cons, List.not_mem_nil, or_false] at h
      rcases h with rfl | rfl
      · rfl
      · exact hv _) (fun x y : Tg => cmpB x.1 y.1) swoT 74 #[] b d cap zs.toArray w enter74 (fun _ _ _ _ x y => order_walk x.1 y.1 _ _ _) hH hb (by simpa using hz)
  have e1 : zs.toArray.size = zs.length := by simp
  have e2 : (sortT zs).toArray = pdq (ltOf fun x y : Tg => cmpB x.1 y.1) zs.toArray 0 zs.toArray.size (Lib.bitLen zs.toArray.size) true true := by
    rw [e1]; rfl
  rw [e2]
  rw [e1] at h ⊢
  exact h
theorem flat_getT (vs : Nat → Value) (l : List Tg) (k j : Nat) (hk : k < l.length) (hj : j < 2) : (flatK (encT vs) 2 l.toArray)[k * 2 + j]! = (encT vs l[k])[j]! := by
  rw [get_flatK (encT vs) 2 l.toArray (k * 2 + j) (by simp; omega)]
  have e1 : (k * 2 + j) / 2 = k := by omega
  have e2 : (k * 2 + j) % 2 = j := by omega
  rw [e1, e2]
  have : l.toArray[k]! = l[k] := by simp [hk]
  rw [this]
theorem isEnts_at {xs : List (List C)} (h : isEnts xs = true) {x : List C} (hx : x ∈ xs) : ∃ p y, x = [.str p, .sl 5 none false y] := by
  have := List.all_eq_true.1 h x hx
  have h2 := shape_ok this
  exact ⟨_, _, h2.symm⟩
set_option maxHeartbeats 1000000 in
theorem sound73 {args vals : List V} {H H' : Hp} (h : x73 args H = some (vals, H')) : Enter Tryd.prog 73 ∧ Sound Tryd.prog Kw 73 args H vals H' := by
  unfold x73 at h
  split at h
  case h_2 => simp at h
  rename_i len xs
  split at h <;> simp only [Option.some.injEq, Prod.mk.injEq, reduceCtorEq] at h
  rename_i hc
  obtain ⟨hi, rfl, hlt⟩ := hc
  obtain ⟨rfl, rfl⟩ := h
  refine ⟨enter73, ?_⟩
  by_cases hne : xs = []
  · subst hne
    have e : sortX [] = [] := List.length_eq_zero_iff.1 (sortX_len [] (by simp))
    rw [e]
    exact (callN_sound (K := Kw) (draw_ok mixedOk) (env_ok fun g f args H vals H' h => by cases h) 40 _ _ _ _ _ empty73).2
  intro w A bl us hcx hH hargs
  obtain ⟨hl, hr⟩ := hargs
  match us, hl, hr with
  | [u, v], _, hr =>
    have hv := hr 1 _ v rfl rfl
    have hv' : v = .func (.func 74) #[] #[] := by
      cases hv with
      | fn _ _ vs hs _ =>
        have : vs = #[] := by apply Array.eq_empty_of_size_eq_zero; simpa using hs.symm
        rw [this]
    subst hv'
    have hu := hr 0 _ u rfl rfl
    cases hu with
    | buf _ _ _ _ a l cap k1 k2 k3 =>
      obtain ⟨j1, rfl, ⟨j2, j3, j4⟩, j5⟩ := k3 2 xs rfl
      have hpos : 0 < xs.length := List.length_pos_iff.2 hne
      obtain ⟨b, d, n, h1, rfl, h3, h4⟩ := j5 (by omega)
      obtain ⟨o1, o2, o3⟩ := hH.obj 0 _ rfl
      obtain ⟨arr, t, g1, g2, g3⟩ := o3 b d h1
      have hblt : b < w.heap.size := (hH.lt 0 b d ⟨_, rfl, rfl⟩ h1).1
      obtain ⟨vs, hvs⟩ : ∃ vs : Nat → Value, vs = fun m => if m < xs.length then (arr[d + m * 2 + 1]?).getD .nilFunc else .nilFunc := ⟨_, rfl⟩
      have hvr : ∀ m, (hm : m < xs.length) → arr[d + m * 2 + 1]? = some (vs m) ∧ ∀ c, xs[m][1]? = some c → RepC w A c (vs m) := fun m hm => by
        have hlen := o1 xs[m] (List.getElem_mem hm)
        obtain ⟨u, u1, u2⟩ := g3 m 1 xs[m] (xs[m][1]'(by omega)) (List.getElem?_eq_getElem hm) (List.getElem?_eq_getElem _)
        have : vs m = u := by rw [hvs]; simp only [if_pos hm, u1, Option.getD_some]
        refine ⟨by rw [this]; exact u1, fun c hc => ?_⟩
        rw [List.getElem?_eq_getElem (by omega), Option.some.injEq] at hc
        rw [this, ← hc]; exact u2
      have hv1 : ∀ m, (vs m).oneCell' = true := fun m => by
        by_cases hm : m < xs.length
        · have hlen := o1 xs[m] (List.getElem_mem hm)
          exact repC_one ((hvr m hm).2 _ (List.getElem?_eq_getElem (show 1 < xs[m].length by omega)))
        · rw [hvs]; simp only [if_neg hm]; rfl
      have htl := tagE_len 0 xs
      have hpt : ∀ m, (hm : m < xs.length) → ∃ y, xs[m] = [.str (xs[m].headD .pnil).st, y] := fun m hm => by
        obtain ⟨p, y, e⟩ := isEnts_at hi (List.getElem_mem hm)
        exact ⟨_, by rw [e]; rfl⟩
      have hcell : ∀ t, t < (tagE 0 xs).length * 2 → arr[d + t]? = some ((flatK (encT vs) 2 (tagE 0 xs).toArray)[t]!) := fun t ht => by
        have hk : t / 2 < xs.length := by omega
        have hj : t % 2 < 2 := by omega
        have e : t / 2 * 2 + t % 2 = t := by omega
        conv => rhs; rw [← e, flat_getT vs _ _ _ (by omega) hj, tagE_get 0 xs _ hk]
        obtain ⟨y, hy⟩ := hpt _ hk
        rcases Nat.lt_or_ge (t % 2) 1 with h0 | h0
        · have e0 : t % 2 = 0 := by omega
          obtain ⟨u, u1, u2⟩ := g3 (t / 2) 0 xs[t / 2] (.str (xs[t / 2].headD .pnil).st) (List.getElem?_eq_getElem hk) (by rw [hy]; rfl)
          rw [e0, show d + t = d + t / 2 * 2 + 0 by omega, u1]
          cases u2; rfl
        · have e0 : t % 2 = 1 := by omega
          rw [e0, show d + t = d + t / 2 * 2 + 1 by omega, (hvr _ hk).1, Nat.zero_add]; rfl
      have hHolds : HoldsK (encT vs) 2 w b d (tagE 0 xs).toArray := fun j hj => by
        have hj' : j < (tagE 0 xs).length * 2 := by simpa using hj
        refine ⟨?_, by simp [World.frozen?, g1]⟩
        rw [cell_of_heap g1, hcell j hj']
        rfl
      have hs := sort_walk vs hv1 (tagE 0 xs) b d cap w hHolds hblt (by omega)
      rw [htl] at hs
      have e0 : (⟨b, d + 0 * 2, none⟩ : Addr) = ⟨b, d, none⟩ := by simp
      rw [e0]
      refine Calls.mono hs ?_
      rintro e w' ⟨rfl, nn, os, hw'⟩
      have hspec := sortT_spec (tagE 0 xs) (by omega)
      have hlen : (sortT (tagE 0 xs)).length = xs.length := by rw [hspec.1.length_eq, htl]
      have hmem : ∀ t ∈ sortT (tagE 0 xs), ∃ h : t.2 < xs.length, t.1 = (xs[t.2].headD .pnil).st := fun t ht => tagE_mem (hspec.1.mem_iff.1 ht)
      have hX : sortX xs = (sortT (tagE 0 xs)).map fun t => xs.getD t.2 [] := rfl
      rw [hX]
      generalize sortT (tagE 0 xs) = ss at *
      have hfs : (flatK (encT vs) 2 ss.toArray).size = xs.length * 2 := by simp [hlen]
      replace hw' : w' = Go.Sort.grow (putRow id (Sort.ahead w nn) b d (flatK (encT vs) 2 ss.toArray)) os := hw'
      have hw1 : (putRow id (Sort.ahead w nn) b d (flatK (encT vs) 2 ss.toArray)).heap[b]? = some (.cells (putCells id d (flatK (encT vs) 2 ss.toArray) arr) t (0, 0)) := by
        simp [putRow, mapBlock, Array.getElem?_modify, g1, onCells]
      have hk1 : ∀ c, c ≠ b → (putRow id (Sort.ahead w nn) b d (flatK (encT vs) 2 ss.toArray)).heap[c]? = w.heap[c]? := fun c hc => by
        simp [putRow, mapBlock, Array.getElem?_modify, Ne.symm hc]
      have hsz1 : (putRow id (Sort.ahead w nn) b d (flatK (encT vs) 2 ss.toArray)).heap.size = w.heap.size := by simp
      have hos2 : (putRow id (Sort.ahead w nn) b d (flatK (encT vs) 2 ss.toArray)).os = w.os ∧ (putRow id (Sort.ahead w nn) b d (flatK (encT vs) 2 ss.toArray)).tape = w.tape ∧ (putRow id (Sort.ahead w nn) b d (flatK (encT vs) 2 ss.toArray)).output = w.output := ⟨rfl, rfl, rfl⟩
      generalize putRow id (Sort.ahead w nn) b d (flatK (encT vs) 2 ss.toArray) = W2 at hw1 hk1 hsz1 hw' hos2
      subst hw'
      have hps : (putCells id d (flatK (encT vs) 2 ss.toArray) arr).size = arr.size := by simp [putCells]
      have hml : (ss.map fun t => xs.getD t.2 []).length = xs.length := by rw [List.length_map, hlen]
      have hle := le_set (o' := O.mem 2 0 (ss.map fun t => xs.getD t.2 [])) hH (i0 := 0) rfl rfl h1 g1 hps hw1 hk1 (fun z e xs' he => by
        simp only [O.mem.injEq] at he
        obtain ⟨rfl, rfl, rfl⟩ := he
        exact ⟨0, xs, rfl, Nat.le_refl _, fun _ => by rw [hml]⟩) (fun cs he => by cases he)
      have hat : ∀ k, (hk : k < ss.length) → (ss.map fun t => xs.getD t.2 [])[k]? = some (xs[(ss[k]).2]'(hmem _ (List.getElem_mem hk)).1) := fun k hk => by
        rw [List.getElem?_map, List.getElem?_eq_getElem hk, Option.map_some, List.getD_eq_getElem?_getD, List.getElem?_eq_getElem (hmem _ (List.getElem_mem hk)).1]; rfl
      have hrep := rep_set hH (i0 := 0) rfl rfl h1 hle hk1 hsz1 (by
        refine ⟨fun cs hcs => ?_, fun hn => (by rw [h1] at hn; cases hn), fun b' d' hb' => ?_⟩
        · obtain ⟨k, hk, rfl⟩ := List.getElem_of_mem hcs
          have hk2 : k < ss.length := by simpa using hk
          have := hat k hk2
          rw [List.getElem?_eq_getElem hk, Option.some.injEq] at this
          rw [this]; exact o1 _ (List.getElem_mem _)
        · rw [h1] at hb'
          simp only [Option.some.injEq, Prod.mk.injEq] at hb'
          obtain ⟨rfl, rfl⟩ := hb'
          refine ⟨_, t, hw1, by rw [hps, hml]; exact g2, fun k j cs x hk hj => ?_⟩
          have hk' : k < ss.length := by have := (List.getElem?_eq_some_iff.1 hk).1; simpa using this
          rw [hat k hk', Option.some.injEq] at hk
          obtain ⟨hm, hmp⟩ := hmem _ (List.getElem_mem hk')
          subst hk
          have hj2 : j < 2 := by have := (List.getElem?_eq_some_iff.1 hj).1; rw [o1 _ (List.getElem_mem hm)] at this; exact this
          have hlt2 : d + k * 2 + j < arr.size := by omega
          have hval : (putCells id d (flatK (encT vs) 2 ss.toArray) arr)[d + k * 2 + j]? = some ((encT vs ss[k])[j]!) := by
            simp only [putCells, Array.getElem?_mapIdx, Array.getElem?_eq_getElem hlt2, Option.map_some, Option.some.injEq]
            rw [if_pos ⟨by omega, by rw [hfs]; omega⟩]
            have e5 : d + k * 2 + j - d = k * 2 + j := by omega
            rw [e5]
            exact flat_getT vs ss k j hk' hj2
          refine ⟨_, hval, ?_⟩
          have hC : ∀ c, A c → W2.heap[c]? = w.heap[c]? := fun c hc => hk1 c fun e => (hH.lt 0 b d ⟨_, rfl, rfl⟩ h1).2 (e ▸ hc)
          rcases Nat.lt_or_ge j 1 with h0 | h0
          · obtain rfl : j = 0 := by omega
            obtain ⟨y, hy⟩ := hpt _ hm
            rw [hy] at hj
            simp only [List.getElem?_cons_zero, Option.some.injEq] at hj
            rw [← hj, ← hmp]
            exact .str _
          · obtain rfl : j = 1 := by omega
            exact ((hvr _ hm).2 _ hj).mono hC fun _ h => h) hos2
      have g : Grow W2 (Go.Sort.grow W2 os) := ⟨rfl, rfl, rfl, by simp, fun c hc => heap_grow_old W2 os hc⟩
      have hset : ([O.mem 2 0 xs] : Hp).set 0 (O.mem 2 0 (ss.map fun t => xs.getD t.2 [])) = [O.mem 2 0 (ss.map fun t => xs.getD t.2 [])] := rfl
      rw [hset] at hrep hle
      obtain ⟨q1, q2⟩ := Ev.grow hrep g (N := fun _ => False) (fun b hb => hb.elim)
      refine ⟨_, bl, [], rfl, ⟨rfl, fun j x u hj => by simp at hj⟩, q1, hle.trans q2, ?_⟩
      refine Evo.trans (A1 := A) (L1 := Liv bl [O.mem 2 0 (ss.map fun t => xs.getD t.2 [])]) ?_ (g.evo (fun b hb => .inl hb) (fun b hb => hb.elim .inl False.elim))
      exact ⟨hos2.1, hos2.2.1, hos2.2.2, by omega, fun c hc hL => hk1 c fun e => hL (.inl ⟨0, d, ⟨_, rfl, rfl⟩, e ▸ h1⟩), fun c hc => .inl (liv_set (i0 := 0) (o := .mem 2 0 xs) rfl rfl hc), fun c hc => .inl hc⟩
end Go.Proofs.YtgaabjmbnomimaaDoor
namespace Go.Proofs.YtgaabjmbnomimaaDoor
open Go Go.Ev
theorem drawOk : DrawOk Tryd.prog Kw := draw_ok mixedOk
theorem envOk : EnvOk Tryd.prog Kw E := env_ok fun g f args H vals H' h1 h2 => by
  unfold xt at h1
  split at h1 <;> simp only [Option.some.injEq, reduceCtorEq] at h1
  · subst h1; exact sound148 h2
  · subst h1; exact sound149 h2
  · subst h1; exact sound118 h2
  · subst h1; exact sound122 h2
  · subst h1; exact sound72 h2
  · subst h1; exact sound73 h2
end Go.Proofs.YtgaabjmbnomimaaDoor
namespace Go.Proofs.YtgaabjmbnomimaaDoor
open Go Go.Ev
set_option maxRecDepth 100000
theorem rdI {t : TypeId} (ht : Tryd.prog.underlying t = some (.int .i64)) {n : Nat} {xs : List C} (h : Rd Tryd.prog n t xs) : ∃ v, xs = [.int .i64 v] := by
  cases n with
  | zero => exact h.elim
  | succ n =>
    simp only [Rd, ht] at h
    obtain ⟨v, rfl, _⟩ := h
    exact ⟨v, rfl⟩
theorem rdS {t : TypeId} (ht : Tryd.prog.underlying t = some .string) {n : Nat} {xs : List C} (h : Rd Tryd.prog n t xs) : ∃ v, xs = [.str v] := by
  cases n with
  | zero => exact h.elim
  | succ n =>
    simp only [Rd, ht] at h
    obtain ⟨v, rfl, _⟩ := h
    exact ⟨v, rfl⟩
theorem rdL {α : Type} {t e : TypeId} {z : Nat} (ht : Tryd.prog.underlying t = some (.slice e)) (hz : Tryd.prog.cellsOf e = z) (enc : α → List C) (he : ∀ {n : Nat} {xs : List C}, Rd Tryd.prog n e xs → ∃ a, xs = enc a) {n : Nat} {xs : List C} (h : Rd Tryd.prog n t xs) :
    ∃ l : List α, xs = [.sl z none false (l.map enc)] ∧ l.length ≤ maxLen := by
  cases n with
  | zero => exact h.elim
  | succ n =>
    simp only [Rd, ht] at h
    obtain ⟨ys, rfl, hq, hy⟩ := h
    have : ∃ l : List α, ys = l.map enc := by
      clear hq
      induction ys with
      | nil => exact ⟨[], rfl⟩
      | cons y r ih =>
        obtain ⟨l, rfl⟩ := ih (fun z hz => hy z (by simp [hz]))
        obtain ⟨c, rfl⟩ := he (hy y (by simp))
        exact ⟨c :: l, rfl⟩
    obtain ⟨l, rfl⟩ := this
    exact ⟨l, by rw [hz], by simpa using hq⟩
theorem rdVal {n : Nat} {xs : List C} (h : Rd Tryd.prog n 100 xs) : ∃ v : Val, xs = ev v := by
  cases n with
  | zero => exact h.elim
  | succ n =>
    rw [Rd, Tryd.underlying100] at h
    obtain ⟨parts, hl, rfl, hp⟩ := h
    match parts, hl with
    | [p, q, r], _ =>
      obtain ⟨k, rfl⟩ := rdI Tryd.underlying98 (hp 0 _ p rfl rfl)
      obtain ⟨m, rfl⟩ := rdI Tryd.underlying3 (hp 1 _ q rfl rfl)
      obtain ⟨s, rfl⟩ := rdS Tryd.underlying9 (hp 2 _ r rfl rfl)
      exact ⟨⟨k, m, s⟩, rfl⟩
theorem rdRow {n : Nat} {xs : List C} (h : Rd Tryd.prog n 102 xs) : ∃ r : Row, xs = er r := by
  cases n with
  | zero => exact h.elim
  | succ n =>
    rw [Rd, Tryd.underlying102] at h
    obtain ⟨parts, hl, rfl, hp⟩ := h
    match parts, hl with
    | [p, q, r], _ =>
      obtain ⟨x, rfl⟩ := rdI Tryd.underlying3 (hp 0 _ p rfl rfl)
      obtain ⟨y, rfl⟩ := rdI Tryd.underlying3 (hp 1 _ q rfl rfl)
      obtain ⟨v, rfl⟩ := rdVal (hp 2 _ r rfl rfl)
      exact ⟨⟨x, y, v⟩, rfl⟩
theorem rdRows {n : Nat} {xs : List C} (h : Rd Tryd.prog n 29 xs) : ∃ l : List Row, xs = [.sl 5 none false (rows l)] ∧ l.length ≤ maxLen :=
  rdL Tryd.underlying29 (by kernel_rfl) er rdRow h
theorem arC {α : Type} {t : TypeId} (enc : α → C) (ha : aggAt Tryd.prog t = false) (he : ∀ {n : Nat} {xs : List C}, Rd Tryd.prog n t xs → ∃ a, xs = [enc a]) {v : V} {vl : List V} {ts : List TypeId} (h : Args Tryd.prog (t :: ts) (v :: vl)) : (∃ a, v = .c (enc a)) ∧ Args Tryd.prog ts vl := by
  obtain ⟨⟨n, xs, h1, e0⟩, h2⟩ := h
  subst e0
  obtain ⟨a, rfl⟩ := he h1
  refine ⟨⟨a, ?_⟩, h2⟩
  unfold argV
  rw [ha]
theorem arA {α : Type} {t : TypeId} (enc : α → List C) (ha : aggAt Tryd.prog t = true) (he : ∀ {n : Nat} {xs : List C}, Rd Tryd.prog n t xs → ∃ a, xs = enc a) {v : V} {vl : List V} {ts : List TypeId} (h : Args Tryd.prog (t :: ts) (v :: vl)) : (∃ a, v = .agg ((enc a).map .c)) ∧ Args Tryd.prog ts vl := by
  obtain ⟨⟨n, xs, h1, e0⟩, h2⟩ := h
  subst e0
  obtain ⟨a, rfl⟩ := he h1
  refine ⟨⟨a, ?_⟩, h2⟩
  unfold argV
  rw [ha]
theorem args1 {a : TypeId} {vl : List V} (h : Args Tryd.prog [a] vl) : ∃ v, vl = [v] := by
  cases vl with
  | nil => exact h.elim
  | cons v r => cases r with
    | nil => exact ⟨v, rfl⟩
    | cons _ _ => exact h.2.elim
theorem args2 {a b : TypeId} {vl : List V} (h : Args Tryd.prog [a, b] vl) : ∃ v w, vl = [v, w] := by
  cases vl with
  | nil => exact h.elim
  | cons v r => obtain ⟨w, rfl⟩ := args1 (a := b) h.2; exact ⟨v, w, rfl⟩
theorem kw_of {l : List (String × DataW Unit)} {W : World} (hA : ("unicode/utf8.acceptRanges", Rows.laid_unicode_utf8_acceptRanges) ∈ l) (hF : ("unicode/utf8.first", Rows.laid_unicode_utf8_first) ∈ l) (h : laidMet Tryd.prog l W) : Kw W := by
  have ha : Rows.laid_unicode_utf8_acceptRanges = Lib.acceptData := by kernel_rfl
  have hf : Rows.laid_unicode_utf8_first = Lib.firstData := Pinned.utf8First_eq
  have hU : Lib.Utf8Tabs 1 2 W :=
    utf8Tabs_of_readsT (ρ := Tryd.lays197_ren) { Tryd.lays197 with } ⟨by kernel_rfl, by kernel_rfl, by kernel_rfl, by kernel_rfl, by kernel_rfl, by kernel_rfl, by kernel_rfl⟩ (hf ▸ Lib.laidMet.reads h hF) (ha ▸ Lib.laidMet.reads h hA)
  refine ⟨hU, ?_⟩
  have h1 := (hU.2 0 (by omega)).1
  rcases Nat.lt_or_ge 2 W.heap.size with h2 | h2
  · exact h2
  · exfalso
    simp only [World.cell?] at h1
    rw [Array.getElem?_eq_none h2] at h1
    simp at h1
def firstCells : Obj → Obj
  | .cells _ t frozen => .cells (Lib.firstTab.map (Value.int .u8)).toArray t frozen
  | o => o
def acceptCells : Obj → Obj
  | .cells _ t frozen => .cells (((List.range 16).flatMap fun i => [Value.int .u8 (Lib.accLo i), Value.int .u8 (Lib.accHi i)])).toArray t frozen
  | o => o
noncomputable def laidWorld (os : Os) : World :=
  { World.holding Tryd.prog os ⟨#[], #[], []⟩ with heap := ((World.holding Tryd.prog os ⟨#[], #[], []⟩).heap.modify 1 firstCells).modify 2 acceptCells }
theorem own : ownKnob Tryd.prog.godebug = none := by kernel_rfl
end Go.Proofs.YtgaabjmbnomimaaDoor
namespace Go.Proofs.YtgaabjmbnomimaaDoor
open Go Go.Ev
set_option maxRecDepth 100000
theorem rdSl {t : TypeId} (ht : Tryd.prog.underlying t = some .string) {n : Nat} {xs : List C} (h : Rd Tryd.prog n t xs) : ∃ v : List UInt8, xs = [.str v] ∧ v.length ≤ maxLen := by
  cases n with
  | zero => exact h.elim
  | succ n =>
    simp only [Rd, ht] at h
    exact h
theorem rdT : ∀ (n : Nat) (xs : List C), (Rd Tryd.prog n 31 xs → ∃ t : Nd, xs = t.enc ∧ lensT t = true) ∧ (Rd Tryd.prog n 23 xs → ∃ ks : List Nd, xs = [.sl 3 none false (encL ks)] ∧ lensL ks = true ∧ ks.length ≤ maxLen)
  | 0, xs => ⟨fun h => h.elim, fun h => h.elim⟩
  | n + 1, xs => by
    refine ⟨fun h => ?_, fun h => ?_⟩
    · rw [Rd, Tryd.underlying31] at h
      obtain ⟨parts, hl, rfl, hp⟩ := h
      match parts, hl with
      | [p, q, r], _ =>
        obtain ⟨s, rfl, h1⟩ := rdSl Tryd.underlying9 (hp 0 _ p rfl rfl)
        obtain ⟨rs, rfl, h2⟩ := rdRows (hp 1 _ q rfl rfl)
        obtain ⟨ks, rfl, h3, h4⟩ := (rdT n r).2 (hp 2 _ r rfl rfl)
        refine ⟨.node s rs ks, by rw [Nd.enc]; rfl, ?_⟩
        have hm : maxLen ≤ 9223372036854775807 := by decide
        rw [lensT, h3]
        simp only [Bool.and_eq_true, decide_eq_true_eq]
        exact ⟨⟨⟨by omega, by omega⟩, by omega⟩, trivial⟩
    · rw [Rd, Tryd.underlying23] at h
      obtain ⟨ys, rfl, hq, hy⟩ := h
      have hz : Tryd.prog.cellsOf 31 = 3 := by kernel_rfl
      have : ∃ l : List Nd, ys = encL l ∧ lensL l = true := by
        clear hq
        induction ys with
        | nil => exact ⟨[], rfl, rfl⟩
        | cons y r ih =>
          obtain ⟨l, rfl, hl⟩ := ih (fun z hz => hy z (by simp [hz]))
          obtain ⟨t, rfl, ht⟩ := (rdT n y).1 (hy y (by simp))
          exact ⟨t :: l, by rw [encL], by rw [lensL, ht, hl]; rfl⟩
      obtain ⟨l, rfl, hl⟩ := this
      exact ⟨l, by rw [hz], hl, by simpa using hq⟩
structure Lt where
  t : Nd
  ok : lensT t = true
theorem rd31 {n : Nat} {xs : List C} (h : Rd Tryd.prog n 31 xs) : ∃ x : Lt, xs = x.t.enc := by
  obtain ⟨t, h1, h2⟩ := (rdT n xs).1 h
  exact ⟨⟨t, h2⟩, h1⟩
theorem enc_VT (t : Nd) : V.agg (t.enc.map .c) = VT t := by rw [Nd.enc_eq]; rfl
theorem ar31 {v : V} {vl : List V} {ts : List TypeId} (h : Args Tryd.prog (31 :: ts) (v :: vl)) : (∃ x : Lt, v = VT x.t) ∧ Args Tryd.prog ts vl := by
  obtain ⟨⟨x, h1⟩, h2⟩ := arA (fun x : Lt => x.t.enc) (by kernel_rfl) rd31 h
  exact ⟨⟨x, by rw [h1, enc_VT]⟩, h2⟩
end Go.Proofs.YtgaabjmbnomimaaDoor
namespace Go.Proofs.YtgaabjmbnomimaaDoor
open Go Go.Ev
-- cse
def s134 : CSpec := fun a h => match a, h with
  | [.agg [.c (.str s), .c (.sl 5 rn rt xs), .c (.sl 3 kn kt ys)], .c (.str q), .fn 82 []], [] => some ([], [.fn 166 [.ptr 1 0 0 0, .ptr 0 0 0 0, .ptr 2 0 0 0]], [.box [.c (.str s), .c (.sl 5 rn rt xs), .c (.sl 3 kn kt ys)], .box [.c (.str q)], .box [.fn 82 []]])
  | _, _ => none
noncomputable abbrev p166 : Par := par E sh (ctOf [(82, s82), (68, s68), (134, s134)]) 166 4 4
abbrev s166_0 (q : Bys) (s : Bys) (rn : OBo) (rt : Bool) (xs : LLC) (kn : OBo) (kt : Bool) (ys : LLC) (r : List (List V)) (b : Bool) (s5 : Bys) (i33 : Int) (i34 : Int) : Fr × Hp := ([(3, V.ptr 2 0 0 0), (4, V.ptr 4 0 0 0), (5, V.c (C.str s5)), (32, V.c (C.sl 3 kn kt ys)), (33, V.c (C.int IntKind.i64 i33)), (34, V.c (C.int IntKind.i64 i34))], [O.box [V.c (C.str q)], O.box [V.c (C.str s), V.c (C.sl 5 rn rt xs), V.c (C.sl 3 kn kt ys)], O.box [V.fn 82 []], O.yo r.tail b, O.box [V.yl 3]])
abbrev s166_0v (q : Bys) (s : Bys) (rn : OBo) (rt : Bool) (xs : LLC) (kn : OBo) (kt : Bool) (ys : LLC) (r : List (List V)) (b : Bool) (s5 : Bys) (i33 : Int) (i34 : Int) : Fr × Hp := ([(3, V.ptr 2 0 0 0), (4, V.ptr 4 0 0 0), (5, V.c (C.str s5)), (32, V.c (C.sl 3 kn kt ys)), (33, V.c (C.int IntKind.i64 i33)), (34, V.c (C.int IntKind.i64 i34))], [O.box [V.c (C.str q)], O.box [V.c (C.str s), V.c (C.sl 5 rn rt xs), V.c (C.sl 3 kn kt ys)], O.box [V.fn 82 []], O.yo r b, O.box [V.yl 3]])
noncomputable abbrev b166_0v : Code := loopAt (codeOf E (166)) 0
abbrev s166_0v_0 (q : Bys) (s : Bys) (rn : OBo) (rt : Bool) (xs : LLC) (kn : OBo) (kt : Bool) (ys : LLC) (r : List (List V)) (b : Bool) (s5 : Bys) (i33 : Int) (i34 : Int) (sh5 : Bys) (nlh5 : OBo) (th5 : Bool) (xsh5 : LLC) (nlh5_1 : OBo) (th5_1 : Bool) (xsh5_1 : LLC) : Fr × Hp := ([(3, V.ptr 2 0 0 0), (4, V.ptr 4 0 0 0), (5, V.c (C.str s5)), (32, V.c (C.sl 3 kn kt ys)), (33, V.c (C.int IntKind.i64 i33)), (34, V.c (C.int IntKind.i64 i34)), (41, V.fn 166 [V.ptr 6 0 0 0, V.ptr 5 0 0 0, V.ptr 7 0 0 0])], [O.box [V.c (C.str q)], O.box [V.c (C.str s), V.c (C.sl 5 rn rt xs), V.c (C.sl 3 kn kt ys)], O.box [V.fn 82 []], O.yo r b, O.box [V.yl 3], O.box [V.c (C.str sh5), V.c (C.sl 5 nlh5 th5 xsh5), V.c (C.sl 3 nlh5_1 th5_1 xsh5_1)], O.box [V.c (C.str s5)], O.box [V.fn 82 []]])
noncomputable abbrev b166_0v_0 : Code := loopAt b166_0v 0
abbrev g166_0v_0 (q : Bys) (s : Bys) (rn : OBo) (rt : Bool) (xs : LLC) (kn : OBo) (kt : Bool) (ys : LLC) (r : List (List V)) (b : Bool) (s5 : Bys) (i33 : Int) (i34 : Int) : Fr × Hp := ([(3, V.ptr 2 0 0 0), (4, V.ptr 4 0 0 0), (5, V.c (C.str s5)), (32, V.c (C.sl 3 kn kt ys)), (33, V.c (C.int IntKind.i64 i33)), (34, V.c (C.int IntKind.i64 i34)), (41, V.fn 166 [V.ptr 6 0 0 0, V.ptr 5 0 0 0, V.ptr 7 0 0 0])], [O.box [V.c (C.str q)], O.box [V.c (C.str s), V.c (C.sl 5 rn rt xs), V.c (C.sl 3 kn kt ys)], O.box [V.fn 82 []], O.yo r b, O.box [V.yl 3], O.gone, O.gone, O.gone])
abbrev x166_0v_0x0 (q : Bys) (s : Bys) (rn : OBo) (rt : Bool) (xs : LLC) (kn : OBo) (kt : Bool) (ys : LLC) (r : List (List V)) (b : Bool) (s5 : Bys) (i33 : Int) (i34 : Int) (p : Bys) (zs : LLC) (nlh8 : OBo) : Ex × Fr × Hp := (Ex.ret, [(3, V.ptr 2 0 0 0), (4, V.ptr 4 0 0 0), (5, V.c (C.str s5)), (32, V.c (C.sl 3 kn kt ys)), (33, V.c (C.int IntKind.i64 i33)), (34, V.c (C.int IntKind.i64 i34)), (41, V.fn 166 [V.ptr 6 0 0 0, V.ptr 5 0 0 0, V.ptr 7 0 0 0])], [O.box [V.c (C.str q)], O.box [V.c (C.str s), V.c (C.sl 5 rn rt xs), V.c (C.sl 3 kn kt ys)], O.box [V.fn 82 []], O.yo r.tail b, O.box [V.yl 3], O.gone, O.gone, O.gone, O.box [V.c (C.str p), V.c (C.sl 5 nlh8 false zs)]])
abbrev x166_0v_0n (q : Bys) (s : Bys) (rn : OBo) (rt : Bool) (xs : LLC) (kn : OBo) (kt : Bool) (ys : LLC) (r : List (List V)) (b : Bool) (s5 : Bys) (i33 : Int) (i34 : Int) : Ex × Fr × Hp := (Ex.nrm, [(3, V.ptr 2 0 0 0), (4, V.ptr 4 0 0 0), (5, V.c (C.str s5)), (32, V.c (C.sl 3 kn kt ys)), (33, V.c (C.int IntKind.i64 i33)), (34, V.c (C.int IntKind.i64 i34)), (41, V.fn 166 [V.ptr 6 0 0 0, V.ptr 5 0 0 0, V.ptr 7 0 0 0])], [O.box [V.c (C.str q)], O.box [V.c (C.str s), V.c (C.sl 5 rn rt xs), V.c (C.sl 3 kn kt ys)], O.box [V.fn 82 []], O.yo r b, O.box [V.yl 3], O.gone, O.gone, O.gone])
abbrev x166_0vx0 (q : Bys) (s : Bys) (rn : OBo) (rt : Bool) (xs : LLC) (kn : OBo) (kt : Bool) (ys : LLC) (r : List (List V)) (b : Bool) (s5 : Bys) (i33 : Int) (i34 : Int) (p : Bys) (zs : LLC) (nlh8 : OBo) : Ex × Fr × Hp := (Ex.ret, [(3, V.ptr 2 0 0 0), (4, V.ptr 4 0 0 0), (5, V.c (C.str s5)), (32, V.c (C.sl 3 kn kt ys)), (33, V.c (C.int IntKind.i64 i33)), (34, V.c (C.int IntKind.i64 i34)), (41, V.fn 166 [V.ptr 6 0 0 0, V.ptr 5 0 0 0, V.ptr 7 0 0 0])], [O.box [V.c (C.str q)], O.box [V.c (C.str s), V.c (C.sl 5 rn rt xs), V.c (C.sl 3 kn kt ys)], O.box [V.fn 82 []], O.yo r.tail b, O.box [V.yl 3], O.gone, O.gone, O.gone, O.box [V.c (C.str p), V.c (C.sl 5 nlh8 false zs)]])
abbrev x166_0vx1 (q : Bys) (s : Bys) (rn : OBo) (rt : Bool) (xs : LLC) (kn : OBo) (kt : Bool) (ys : LLC) (r : List (List V)) (b : Bool) (s5 : Bys) (i33 : Int) (i34 : Int) : Ex × Fr × Hp := (Ex.exit 0, [(3, V.ptr 2 0 0 0), (4, V.ptr 4 0 0 0), (5, V.c (C.str s5)), (32, V.c (C.sl 3 kn kt ys)), (33, V.c (C.int IntKind.i64 i33)), (34, V.c (C.int IntKind.i64 i34)), (35, V.c (C.bool false))], [O.box [V.c (C.str q)], O.box [V.c (C.str s), V.c (C.sl 5 rn rt xs), V.c (C.sl 3 kn kt ys)], O.box [V.fn 82 []], O.yo r b, O.box [V.yl 3]])
theorem t166_0v_0 (q : Bys) (s : Bys) (rn : OBo) (rt : Bool) (xs : LLC) (kn : OBo) (kt : Bool) (ys : LLC) (r : List (List V)) (b : Bool) (s5 : Bys) (i33 : Int) (i34 : Int) (p : Bys) (zs : LLC) : p166.rts b166_0v_0 ([V.agg [V.c (C.str p), V.c (C.sl 5 none false zs)]]) (g166_0v_0 q s rn rt xs kn kt ys r b s5 i33 i34) = (Tr.chk (yoHd r [V.agg [V.c (C.str p), V.c (C.sl 5 none false zs)]]) (Tr.br (!yoAns r b) (Tr.leaf (R.x (x166_0v_0x0 q s rn rt xs kn kt ys r b s5 i33 i34 p zs (none)))) (Tr.leaf (R.s (g166_0v_0 q s rn rt xs kn kt ys (r.tail) b s5 i33 i34))))) := by kernel_rfl
theorem k166_0v_0n (q : Bys) (s : Bys) (rn : OBo) (rt : Bool) (xs : LLC) (kn : OBo) (kt : Bool) (ys : LLC) (r : List (List V)) (b : Bool) (s5 : Bys) (i33 : Int) (i34 : Int) : p166.lkx b166_0v 0 (x166_0v_0n q s rn rt xs kn kt ys r b s5 i33 i34) = (Tr.leaf (R.s (s166_0v q s rn rt xs kn kt ys r b s5 i33 (IntKind.i64.wrap (i34 + 1))))) := by kernel_rfl
theorem k166_0v_0x0 (q : Bys) (s : Bys) (rn : OBo) (rt : Bool) (xs : LLC) (kn : OBo) (kt : Bool) (ys : LLC) (r : List (List V)) (b : Bool) (s5 : Bys) (i33 : Int) (i34 : Int) (p : Bys) (zs : LLC) (nlh8 : OBo) : p166.lkx b166_0v 0 (x166_0v_0x0 q s rn rt xs kn kt ys r b s5 i33 i34 p zs nlh8) = (Tr.leaf (R.x (x166_0vx0 q s rn rt xs kn kt ys r b s5 i33 i34 p zs nlh8))) := by kernel_rfl
theorem t166_0v (q : Bys) (s : Bys) (rn : OBo) (rt : Bool) (xs : LLC) (kn : OBo) (kt : Bool) (ys : LLC) (r : List (List V)) (b : Bool) (s5 : Bys) (i33 : Int) (i34 : Int) : p166.lts b166_0v (s166_0v q s rn rt xs kn kt ys r b s5 i33 i34) = (Tr.br (decide (i34 < i33)) (Tr.chk (decide (0 ≤ i34)) (Tr.chk true (Tr.chk (decide (i34.toNat < ys.length)) (Tr.chk (shOk [Sk.str, Sk.sl 5, Sk.sl 3] (ys.getD i34.toNat [])) (Tr.rs 0 (s166_0v_0 q s rn rt xs kn kt ys r b s5 i33 i34 (((ys.getD i34.toNat []).headD C.pnil).st) (none) false (((ys.getD i34.toNat []).tail.headD C.pnil).xs) (none) false (((ys.getD i34.toNat []).tail.tail.headD C.pnil).xs))))))) (Tr.leaf (R.x (x166_0vx1 q s rn rt xs kn kt ys r b s5 i33 i34)))) := by kernel_rfl
theorem k166_0vx0 (q : Bys) (s : Bys) (rn : OBo) (rt : Bool) (xs : LLC) (kn : OBo) (kt : Bool) (ys : LLC) (r : List (List V)) (b : Bool) (s5 : Bys) (i33 : Int) (i34 : Int) (p : Bys) (zs : LLC) (nlh8 : OBo) : p166.fkx 0 (x166_0vx0 q s rn rt xs kn kt ys r b s5 i33 i34 p zs nlh8) = (Tr.leaf (R.out [] [O.box [V.c (C.str q)], O.box [V.c (C.str s), V.c (C.sl 5 rn rt xs), V.c (C.sl 3 kn kt ys)], O.box [V.fn 82 []], O.yo r.tail b])) := by kernel_rfl
theorem k166_0vx1 (q : Bys) (s : Bys) (rn : OBo) (rt : Bool) (xs : LLC) (kn : OBo) (kt : Bool) (ys : LLC) (r : List (List V)) (b : Bool) (s5 : Bys) (i33 : Int) (i34 : Int) : p166.fkx 0 (x166_0vx1 q s rn rt xs kn kt ys r b s5 i33 i34) = (Tr.leaf (R.out [] [O.box [V.c (C.str q)], O.box [V.c (C.str s), V.c (C.sl 5 rn rt xs), V.c (C.sl 3 kn kt ys)], O.box [V.fn 82 []], O.yo r b])) := by kernel_rfl
theorem t166 (q : Bys) (s : Bys) (rn : OBo) (rt : Bool) (xs : LLC) (kn : OBo) (kt : Bool) (ys : LLC) (r : List (List V)) (b : Bool) : p166.ft ([V.yl 3, V.ptr 0 0 0 0, V.ptr 1 0 0 0, V.ptr 2 0 0 0]) ([O.box [V.c (C.str q)], O.box [V.c (C.str s), V.c (C.sl 5 rn rt xs), V.c (C.sl 3 kn kt ys)], O.box [V.fn 82 []], O.yo r b]) = (Tr.chk (decide (q.length + s.length < 4294967296)) (Tr.br false (Tr.leaf (R.out [] [O.box [V.c (C.str q)], O.box [V.c (C.str s), V.c (C.sl 5 rn rt xs), V.c (C.sl 3 kn kt ys)], O.box [V.fn 82 []], O.yo r b])) (Tr.br (decide (0 < (↑xs.length : Int))) (Tr.chk (decide (xs.length < 4294967296)) (Tr.chk (decide (rn ≠ some true ∨ xs = [])) (Tr.chk (yoHd r [V.agg [V.c (C.str (q ++ s)), V.c (C.sl 5 none false xs)]]) (Tr.br (!yoAns r b) (Tr.leaf (R.out [] [O.box [V.c (C.str q)], O.box [V.c (C.str s), V.c (C.sl 5 rn rt xs), V.c (C.sl 3 kn kt ys)], O.box [V.fn 82 []], O.yo r.tail b])) (Tr.ls 0 (s166_0 q s rn rt xs kn kt ys r b (q ++ s) ((↑ys.length : Int)) (0))))))) (Tr.ls 0 (s166_0v q s rn rt xs kn kt ys r b (q ++ s) ((↑ys.length : Int)) (0)))))) := by kernel_rfl
end Go.Proofs.YtgaabjmbnomimaaDoor
namespace Go.Proofs.YtgaabjmbnomimaaDoor
open Go Go.Ev
theorem want_take {es u : List (List V)} {b : Bool} (hw : Want es u b) : ∃ m, u = es.take m ∧ m ≤ es.length ∧ (b = false → m = es.length) ∧ (b = true → 1 ≤ m) := by
  rcases hw with ⟨h1, h2⟩ | ⟨h1, h2, h3⟩
  · exact ⟨es.length, by rw [List.take_length]; exact h2, Nat.le_refl _, fun _ => rfl, fun h => by rw [h1] at h; cases h⟩
  · exact ⟨u.length, List.prefix_iff_eq_take.1 h3, h3.length_le, fun h => (by rw [h1] at h; cases h), fun _ => List.length_pos_iff.2 h2⟩
def ownW (q : Bys) (rs : List Row) : List Ent := match rs with | [] => [] | r :: s => [(q, r :: s)]
theorem walkT_eq (al : List UInt8 → Bool) (q s : Bys) (rs : List Row) (ks : List Nd) : walkT al q (.node s rs ks) = cond (al (q ++ s)) (ownW (q ++ s) rs ++ walkL al (q ++ s) ks) [] := by
  cases rs <;> simp [walkT, ownW]
theorem walkL_app (al : List UInt8 → Bool) (q : Bys) (a b : List Nd) : walkL al q (a ++ b) = walkL al q a ++ walkL al q b := by
  induction a with
  | nil => rfl
  | cons t r ih => simp [walkL, ih]
theorem walkL_take (al : List UInt8 → Bool) (q : Bys) {l : List Nd} {k : Nat} (hk : k < l.length) : walkL al q (l.take (k + 1)) = walkL al q (l.take k) ++ walkT al q l[k] := by
  rw [List.take_succ_eq_append_getElem hk, walkL_app]; simp [walkL]
theorem walkL_take_le (al : List UInt8 → Bool) (q : Bys) (l : List Nd) (k : Nat) : (walkL al q (l.take k)).length ≤ (walkL al q l).length := by
  conv => rhs; rw [← List.take_append_drop k l, walkL_app, List.length_append]
  omega
mutual
theorem eqb_refl : ∀ x : C, x.eqb x = true
  | .int .. | .bool _ | .str _ | .pnil | .inil | .fnil => by simp [C.eqb]
  | .sl z nl t xs => by simp [C.eqb, eqbLL_refl xs]
theorem eqbL_refl : ∀ l : List C, eqbL l l = true
  | [] => by simp [eqbL]
  | x :: r => by simp [eqbL, eqb_refl x, eqbL_refl r]
theorem eqbLL_refl : ∀ l : List (List C), eqbLL l l = true
  | [] => by simp [eqbLL]
  | x :: r => by simp [eqbLL, eqbL_refl x, eqbLL_refl r]
end
theorem eqb_encE (p : Bys) (rs : List Row) : eqbV [V.agg [V.c (C.str p), V.c (C.sl 5 none false (rows rs))]] (encE (p, rs)) = true := by
  simp [encE, eqbV, V.eqb, eqb_refl]
structure At (u : List (List V)) (b : Bool) (m c : Nat) (r : List (List V)) : Prop where
  eq : r = u.drop c
  le : c ≤ m
  lt : b = true → c < m
theorem At.next {es : List (List V)} {u : List (List V)} {b : Bool} {m c : Nat} {r : List (List V)} (hu : u = es.take m) (hm : m ≤ es.length) (hb : b = false → m = es.length) (h : At u b m c r) (hc : c < es.length) :
    c < m ∧ r = es[c] :: u.drop (c + 1) ∧ r.tail = u.drop (c + 1) ∧ ((yoAns r b = true ∧ At u b m (c + 1) r.tail) ∨ (yoAns r b = false ∧ r.tail = [] ∧ b = true)) := by
  have hcm : c < m := by
    cases b with
    | false => have := hb rfl; omega
    | true => exact h.lt rfl
  have hul : u.length = m := by rw [hu, List.length_take]; omega
  have hcu : c < u.length := by omega
  have hd : r = es[c] :: u.drop (c + 1) := by
    rw [h.eq, List.drop_eq_getElem_cons hcu]
    congr 1
    simp only [hu, List.getElem_take]
  have ht : r.tail = u.drop (c + 1) := by rw [hd]; rfl
  refine ⟨hcm, hd, ht, ?_⟩
  unfold yoAns
  cases b with
  | false => exact .inl ⟨by simp, ht, by omega, fun h => by cases h⟩
  | true =>
    by_cases hlast : c + 1 = m
    · right
      have hnil : u.drop (c + 1) = [] := List.drop_of_length_le (by omega)
      rw [ht, hnil]
      exact ⟨by simp, rfl, rfl⟩
    · left
      have hne : (u.drop (c + 1)).isEmpty = false := by
        rw [List.isEmpty_eq_false_iff]
        intro h
        have := congrArg List.length h
        rw [List.length_drop] at this
        simp at this; omega
      rw [ht]
      exact ⟨by simp [hne], rfl, by omega, fun _ => by omega⟩
theorem At.end_ {es : List (List V)} {u : List (List V)} {b : Bool} {m c : Nat} {r : List (List V)} (hu : u = es.take m) (hm : m ≤ es.length) (h : At u b m c r) (hc : c = es.length) : r = [] ∧ b = false := by
  have hbf : b = false := by
    cases b with
    | false => rfl
    | true => have := h.lt rfl; omega
  exact ⟨by rw [h.eq]; exact List.drop_of_length_le (by rw [hu, List.length_take]; omega), hbf⟩
theorem f134 (s : Bys) (rn : OBo) (rt : Bool) (xs : LLC) (kn : OBo) (kt : Bool) (ys : LLC) (q : Bys) : call E 134 [.agg [.c (.str s), .c (.sl 5 rn rt xs), .c (.sl 3 kn kt ys)], .c (.str q), .fn 82 []] [] =
    some ([.fn 166 [.ptr 1 0 0 0, .ptr 0 0 0 0, .ptr 2 0 0 0]], [.box [.c (.str s), .c (.sl 5 rn rt xs), .c (.sl 3 kn kt ys)], .box [.c (.str q)], .box [.fn 82 []]]) := by
  refine call_of (E := E) (sh := sh) (ct := ctOf []) (na := 3) (m := 0) ctOf_nil rfl rfl rfl rfl rfl rfl ?_
  rw [t134]; rfl
theorem s134_ok : CSpecOk E 134 s134 := by
  intro a h cs vals h' he hc
  unfold s134 at he
  split at he <;> simp only [Option.some.injEq, Prod.mk.injEq, reduceCtorEq] at he
  obtain ⟨rfl, rfl, rfl⟩ := he
  exact f134 _ _ _ _ _ _ _ _
def alA (_ : Bys) : Bool := true
def boxK (q s : Bys) (rn : OBo) (rt : Bool) (xs : LLC) (kn : OBo) (kt : Bool) (ys : LLC) : Hp := [.box [.c (.str q)], .box [.c (.str s), .c (.sl 5 rn rt xs), .c (.sl 3 kn kt ys)], .box [.fn 82 []]]
theorem sq166_ok (q s : Bys) (rn : OBo) (rt : Bool) (rs : List Row) (kn : OBo) (kt : Bool) (ks : List Nd) :
    E.seq 166 [.yl 3, .ptr 0 0 0 0, .ptr 1 0 0 0, .ptr 2 0 0 0] (boxK q s rn rt (rows rs) kn kt (encL ks)) = some ((walkT alA q (.node s rs ks)).map encE) := by
  have : sq 166 [.yl 3, .ptr 0 0 0 0, .ptr 1 0 0 0, .ptr 2 0 0 0] (boxK q s rn rt (rows rs) kn kt (encL ks)) = some ((walkT alA q (.node s rs ks)).map encE) := by
    simp only [sq, sq166, boxK, alongP, toRows_rows, decL_enc]; rfl
  exact this
def args166 : List V := [.yl 3, .ptr 0 0 0 0, .ptr 1 0 0 0, .ptr 2 0 0 0]
set_option maxHeartbeats 1000000 in
theorem f166 : ∀ (d : Nat) (q s : Bys) (rn : OBo) (rt : Bool) (rs : List Row) (kn : OBo) (kt : Bool) (ks : List Nd) (n : Nat), depL ks < d → q.length + s.length + n ≤ 24 → kidsOk ks n → right rs = true → (rn ≠ some true ∨ rs = []) →
    ∀ (u : List (List V)) (b : Bool), Want ((walkT alA q (.node s rs ks)).map encE) u b →
    call E 166 args166 (boxK q s rn rt (rows rs) kn kt (encL ks) ++ [.yo u b]) = some ([], boxK q s rn rt (rows rs) kn kt (encL ks) ++ [.yo [] b])
  | 0, _, _, _, _, _, _, _, _, _, h, _, _, _, _, _, _, _ => by omega
  | d + 1, q, s, rn, rt, rs, kn, kt, ks, n, hd, hl, hk, hr, hn, u, b, hw => by
    have hct : (ctOf [(82, s82), (68, s68), (134, s134)]).ok E := ctOf_cons s82_ok (ctOf_cons s68_ok (ctOf_cons s134_ok ctOf_nil))
    refine call_of (E := E) (sh := sh) (ct := ctOf [(82, s82), (68, s68), (134, s134)]) (na := 4) (m := 4) hct rfl rfl rfl rfl rfl rfl ?_
    show p166.fd (p166.ft [.yl 3, .ptr 0 0 0 0, .ptr 1 0 0 0, .ptr 2 0 0 0] [.box [.c (.str q)], .box [.c (.str s), .c (.sl 5 rn rt (rows rs)), .c (.sl 3 kn kt (encL ks))], .box [.fn 82 []], .yo u b]) =
      some (.out [] [.box [.c (.str q)], .box [.c (.str s), .c (.sl 5 rn rt (rows rs)), .c (.sl 3 kn kt (encL ks))], .box [.fn 82 []], .yo [] b])
    rw [t166, encL_length]
    have hkl := okL_len (okL_iff'.2 hk) (by omega)
    have hrl := right_len4 hr
    have hn' : rn ≠ some true ∨ rows rs = [] := hn.imp id fun h => by rw [h]; rfl
    rw [walkT_eq] at hw
    simp only [alA, cond_true] at hw
    obtain ⟨m, hu, hm0, hm1, hm2⟩ := want_take hw
    generalize hes : (ownW (q ++ s) rs ++ walkL alA (q ++ s) ks).map encE = es at *
    have hesl : es.length = (ownW (q ++ s) rs).length + (walkL alA (q ++ s) ks).length := by rw [← hes]; simp
    have at0 : At u b m 0 u := ⟨rfl, Nat.zero_le _, fun h => hm2 h⟩
    -- the kids
    have key : ∀ r : List (List V), At u b m (ownW (q ++ s) rs).length r → p166.fd (Tr.ls 0 (s166_0v q s rn rt (rows rs) kn kt (encL ks) r b (q ++ s) ks.length 0)) =
        some (.out [] [.box [.c (.str q)], .box [.c (.str s), .c (.sl 5 rn rt (rows rs)), .c (.sl 3 kn kt (encL ks))], .box [.fn 82 []], .yo [] b]) := by
      intro r hat
      refine fd_post hct (by kernel_rfl) rfl (list_post (p := p166) hct (b := b166_0v) ks.length (fun k (r : List (List V)) => s166_0v q s rn rt (rows rs) kn kt (encL ks) r b (q ++ s) ks.length k) (fun k r => At u b m ((ownW (q ++ s) rs).length + (walkL alA (q ++ s) (ks.take k)).length) r) _ ?_ ?_ 0 (Nat.zero_le _) r (by simpa [walkL] using hat))
      · intro k r hk2 hat
        have hT := hk.1 _ (List.getElem_mem hk2)
        obtain ⟨g1, g2, g3, g4, g5⟩ := okT_iff.1 hT
        have hkid : depL ks[k].kids < d := by have := depL_kid (List.getElem_mem hk2); omega
        have hnx := walkL_take alA (q ++ s) hk2
        have hle := walkL_take_le alA (q ++ s) ks (k + 1)
        have hesk : ∀ j, (hj : j < (walkT alA (q ++ s) ks[k]).length) → es[(ownW (q ++ s) rs).length + (walkL alA (q ++ s) (ks.take k)).length + j]? = some (encE (walkT alA (q ++ s) ks[k])[j]) := fun j hj => by
          rw [← hes, List.getElem?_map, List.getElem?_append_right (by omega)]
          have e0 : walkL alA (q ++ s) ks = walkL alA (q ++ s) (ks.take (k + 1)) ++ walkL alA (q ++ s) (ks.drop (k + 1)) := by rw [← walkL_app, List.take_append_drop]
          rw [e0, hnx, List.append_assoc, List.getElem?_append_right (by omega), List.getElem?_append_left (by omega)]
          have e1 : (ownW (q ++ s) rs).length + (walkL alA (q ++ s) (ks.take k)).length + j - (ownW (q ++ s) rs).length - (walkL alA (q ++ s) (ks.take k)).length = j := by omega
          rw [e1, List.getElem?_eq_getElem hj]; rfl
        rw [hnx, List.length_append] at hle
        have hin := ranges_post (p := p166) hct (c := b166_0v_0) (gi := 166) (caps := [.ptr 6 0 0 0, .ptr 5 0 0 0, .ptr 7 0 0 0]) (args := args166)
          (s0 := s166_0v_0 q s rn rt (rows rs) kn kt (encL ks) r b (q ++ s) ks.length k ks[k].lab none false (rows ks[k].rows) none false (encL ks[k].kids))
          (h0 := boxK (q ++ s) ks[k].lab none false (rows ks[k].rows) none false (encL ks[k].kids)) (ids := [6, 5, 7]) (by kernel_rfl) (walkT alA (q ++ s) ks[k]) encE rfl (by kernel_rfl)
          (by have := sq166_ok (q ++ s) ks[k].lab none false ks[k].rows none false ks[k].kids; rw [Nd.eta] at this; exact this)
          (fun u' b' hw' => ⟨_, _, f166 d (q ++ s) ks[k].lab none false ks[k].rows none false ks[k].kids (n - ks[k].lab.length) hkid (by rw [List.length_append]; omega) g5 g3 (.inl (by simp)) u' b' (by rw [Nd.eta]; exact hw'), rfl⟩)
          (fun (r : List (List V)) => g166_0v_0 q s rn rt (rows rs) kn kt (encL ks) r b (q ++ s) ks.length k)
          (fun (l : List Ent) r => ∃ j, l = (walkT alA (q ++ s) ks[k]).drop j ∧ j ≤ (walkT alA (q ++ s) ks[k]).length ∧ At u b m ((ownW (q ++ s) rs).length + (walkL alA (q ++ s) (ks.take k)).length + j) r)
          (fun y => (∃ r', At u b m ((ownW (q ++ s) rs).length + (walkL alA (q ++ s) (ks.take (k + 1))).length) r' ∧ p166.ld b166_0v (p166.lkx b166_0v 0 y) = some (R.s (s166_0v q s rn rt (rows rs) kn kt (encL ks) r' b (q ++ s) ks.length ((k + 1 : Nat) : Int)))) ∨
            (∃ x : Ex × Fr × Hp, x.1 ≠ .nrm ∧ p166.fd (p166.fkx 0 x) = some (.out [] [.box [.c (.str q)], .box [.c (.str s), .c (.sl 5 rn rt (rows rs)), .c (.sl 3 kn kt (encL ks))], .box [.fn 82 []], .yo [] b]) ∧ p166.ld b166_0v (p166.lkx b166_0v 0 y) = some (R.x x)))
          (by
            rintro ⟨p, prs⟩ l r ⟨j, hj, hjl, hat⟩
            have hj2 : j < (walkT alA (q ++ s) ks[k]).length := by
              rcases Nat.lt_or_ge j (walkT alA (q ++ s) ks[k]).length with h | h
              · exact h
              · rw [List.drop_of_length_le h] at hj; cases hj
            rw [List.drop_eq_getElem_cons hj2] at hj
            simp only [List.cons.injEq] at hj
            obtain ⟨hj3, rfl⟩ := hj
            have hee := hesk j hj2
            rw [← hj3] at hee
            obtain ⟨hc1, hc2⟩ := List.getElem?_eq_some_iff.1 hee
            obtain ⟨_, hr1, hr2, hr3⟩ := hat.next hu hm0 hm1 hc1
            rw [hc2] at hr1
            have hrd : p166.rds b166_0v_0 (g166_0v_0 q s rn rt (rows rs) kn kt (encL ks) r b (q ++ s) ks.length k) (p166.rts b166_0v_0 (encE (p, prs)) (g166_0v_0 q s rn rt (rows rs) kn kt (encL ks) r b (q ++ s) ks.length k)) =
                (if (!yoAns r b) = true then some (R.x (x166_0v_0x0 q s rn rt (rows rs) kn kt (encL ks) r b (q ++ s) ks.length k p (rows prs) none)) else some (R.s (g166_0v_0 q s rn rt (rows rs) kn kt (encL ks) r.tail b (q ++ s) ks.length k))) := by
              refine (congrArg _ (t166_0v_0 q s rn rt (rows rs) kn kt (encL ks) r b (q ++ s) ks.length k p (rows prs))).trans ?_
              have hyo : yoHd r [V.agg [V.c (C.str p), V.c (C.sl 5 none false (rows prs))]] = true := by rw [hr1]; exact eqb_encE p prs
              rw [rd_chk', if_pos hyo, rd_br, rd_leaf, rd_leaf]
            rcases hr3 with ⟨h1, h2⟩ | ⟨h1, h2, h3⟩
            · left
              refine ⟨r.tail, ⟨j + 1, rfl, by omega, ?_⟩, ?_⟩
              · rw [← Nat.add_assoc]; exact h2
              · rw [hrd, h1]; rfl
            · right
              refine ⟨x166_0v_0x0 q s rn rt (rows rs) kn kt (encL ks) r b (q ++ s) ks.length k p (rows prs) none, by simp, .inr ⟨x166_0vx0 q s rn rt (rows rs) kn kt (encL ks) r b (q ++ s) ks.length k p (rows prs) none, by simp, ?_, ?_⟩, ?_⟩
              · rw [k166_0vx0, fd_leaf, h2]
              · rw [k166_0v_0x0, ld_leaf]
              · rw [hrd, h1]; rfl)
          (by
            rintro r ⟨j, hj, hjl, hat⟩
            have hj2 : j = (walkT alA (q ++ s) ks[k]).length := by
              rcases Nat.lt_or_ge j (walkT alA (q ++ s) ks[k]).length with h | h
              · rw [List.drop_eq_getElem_cons h] at hj; cases hj
              · omega
            subst hj2
            left
            refine ⟨r, by rw [hnx, List.length_append, ← Nat.add_assoc]; exact hat, ?_⟩
            show p166.ld b166_0v (p166.lkx b166_0v 0 (x166_0v_0n q s rn rt (rows rs) kn kt (encL ks) r b (q ++ s) ks.length k)) = _
            rw [k166_0v_0n, ld_leaf, wrap_succ (by omega)])
          r rfl ⟨0, by simp, Nat.zero_le _, by simpa using hat⟩
        rw [t166_0v]
        simp only [nd_ok, nd_lab, nd_rows, nd_kids, encL_length, isL_enc, decL_enc, wrap_hd, hd_pos, ld_br, ld_chk', ld_leaf, fd_br, fd_chk', fd_leaf, decide_true, decide_eq_true_eq, if_true, Int.toNat_natCast, Int.natCast_nonneg, Int.ofNat_lt, Int.ofNat_le, Bool.false_eq_true, if_false, bne_iff_ne, beq_iff_eq, ne_eq, not_true_eq_false, not_false_eq_true, Bool.not_eq_true', decide_eq_false_iff_not, reduceCtorEq, rows_length, pcs_length, er_ok, er_ok', ep_ok, ep_ok', dr_er, dp_ep, isRows_rows, isPcs_pcs, toRows_rows, toPcs_pcs, rows_take, rows_drop, pcs_take, pcs_drop, rows_append, pcs_append, ints_length, isInts_ints, toInts_ints, ei_i, ei_ok, mk_headD, ints_take, ints_drop, ints_append, ints_snoc, ints_snoc', List.take_length, Nat.zero_add, Nat.le_refl, er_a, er_b, er_k, er_n, er_s, er_v, ep_a, ep_b, ep_hk, ep_hn, ep_hs, ep_wk, ep_wn, ep_ws, hk2, encL_getD hk2]
        obtain ⟨y, hy, hR⟩ := hin
        rcases hy with ⟨r', h1, h2⟩ | ⟨x, h1, h2, h3⟩
        · exact .inl ⟨r', h1, ld_rpost hct (by kernel_rfl) rfl ⟨y, h2, hR⟩⟩
        · exact .inr ⟨x, h1, h2, ld_rpost hct (by kernel_rfl) rfl ⟨y, h3, hR⟩⟩
      · intro r hat
        rw [List.take_length, ← hesl] at hat
        obtain ⟨rfl, rfl⟩ := hat.end_ hu hm0 rfl
        rw [t166_0v]
        exact ⟨x166_0vx1 q s rn rt (rows rs) kn kt (encL ks) [] false (q ++ s) ks.length ks.length, by simp, by rw [k166_0vx1, fd_leaf], by simp only [nd_ok, nd_lab, nd_rows, nd_kids, encL_length, isL_enc, decL_enc, wrap_hd, hd_pos, ld_br, ld_chk', ld_leaf, fd_br, fd_chk', fd_leaf, decide_true, decide_eq_true_eq, if_true, Int.toNat_natCast, Int.natCast_nonneg, Int.ofNat_lt, Int.ofNat_le, Bool.false_eq_true, if_false, bne_iff_ne, beq_iff_eq, ne_eq, not_true_eq_false, not_false_eq_true, Bool.not_eq_true', decide_eq_false_iff_not, reduceCtorEq, rows_length, pcs_length, er_ok, er_ok', ep_ok, ep_ok', dr_er, dp_ep, isRows_rows, isPcs_pcs, toRows_rows, toPcs_pcs, rows_take, rows_drop, pcs_take, pcs_drop, rows_append, pcs_append, ints_length, isInts_ints, toInts_ints, ei_i, ei_ok, mk_headD, ints_take, ints_drop, ints_append, ints_snoc, ints_snoc', List.take_length, Nat.zero_add, Nat.le_refl, er_a, er_b, er_k, er_n, er_s, er_v, ep_a, ep_b, ep_hk, ep_hn, ep_hs, ep_wk, ep_wn, ep_ws, Int.lt_irrefl]⟩
    have hql : q.length + s.length < 4294967296 := by omega
    have hrl2 : rs.length < 4294967296 := by omega
    simp only [nd_ok, nd_lab, nd_rows, nd_kids, encL_length, isL_enc, decL_enc, wrap_hd, hd_pos, ld_br, ld_chk', ld_leaf, fd_br, fd_chk', fd_leaf, decide_true, decide_eq_true_eq, if_true, Int.toNat_natCast, Int.natCast_nonneg, Int.ofNat_lt, Int.ofNat_le, Bool.false_eq_true, if_false, bne_iff_ne, beq_iff_eq, ne_eq, not_true_eq_false, not_false_eq_true, Bool.not_eq_true', decide_eq_false_iff_not, reduceCtorEq, rows_length, pcs_length, er_ok, er_ok', ep_ok, ep_ok', dr_er, dp_ep, isRows_rows, isPcs_pcs, toRows_rows, toPcs_pcs, rows_take, rows_drop, pcs_take, pcs_drop, rows_append, pcs_append, ints_length, isInts_ints, toInts_ints, ei_i, ei_ok, mk_headD, ints_take, ints_drop, ints_append, ints_snoc, ints_snoc', List.take_length, Nat.zero_add, Nat.le_refl, er_a, er_b, er_k, er_n, er_s, er_v, ep_a, ep_b, ep_hk, ep_hn, ep_hs, ep_wk, ep_wn, ep_ws, hql, hrl2]
    by_cases c : rs = []
    · subst c
      rw [if_neg (by simp)]
      exact key u at0
    · have c0 : (0 : Int) < rs.length := by have := List.length_pos_iff.2 c; omega
      obtain ⟨r0, rr, rfl⟩ : ∃ a r, rs = a :: r := by cases rs with | nil => exact absurd rfl c | cons a r => exact ⟨a, r, rfl⟩
      have ho : ownW (q ++ s) (r0 :: rr) = [(q ++ s, r0 :: rr)] := rfl
      have h0 : 0 < es.length := by rw [hesl, ho]; simp; omega
      have he0 : es[0] = encE (q ++ s, r0 :: rr) := by simp only [← hes, ho]; rfl
      obtain ⟨_, hr1, hr2, hr3⟩ := at0.next hu hm0 hm1 h0
      rw [he0] at hr1
      have hyo : yoHd u [V.agg [V.c (C.str (q ++ s)), V.c (C.sl 5 none false (rows (r0 :: rr)))]] = true := by rw [hr1]; exact eqb_encE _ _
      rw [if_pos c0]
      simp only [hn', hyo, if_true]
      rcases hr3 with ⟨h1, h2⟩ | ⟨h1, h2, h3⟩
      · rw [if_neg (by simp [h1])]
        exact key u.tail (by rw [ho]; exact h2)
      · rw [if_pos (by simp [h1]), h2]
end Go.Proofs.YtgaabjmbnomimaaDoor
namespace Go.Proofs.YtgaabjmbnomimaaDoor
open Go Go.Ev
-- cse
noncomputable abbrev p81 : Par := par E sh (ctOf [(28, s28), (134, s134), (82, s82)]) 81 3 0
abbrev s81_0 (s : Bys) (rn : OBo) (rt : Bool) (xs : LLC) (kn : OBo) (kt : Bool) (ys : LLC) (nl6 : OBo) (t6 : Bool) (xs6 : LLC) (ys1 : LLC) (nh2 : Nat) (sh4 : Bys) : Fr × Hp := ([(5, V.ptr 0 0 0 0), (6, V.c (C.sl 2 nl6 t6 xs6)), (7, V.ptr 2 0 0 0), (14, V.fn 166 [V.ptr 4 0 0 0, V.ptr 3 0 0 0, V.ptr 5 0 0 0])], [O.box [V.fn 82 []], O.mem 2 0 ys1, O.box [V.buf 1 0 0 nh2], O.box [V.c (C.str s), V.c (C.sl 5 rn rt xs), V.c (C.sl 3 kn kt ys)], O.box [V.c (C.str sh4)], O.box [V.fn 82 []]])
noncomputable abbrev b81_0 : Code := loopAt (codeOf E (81)) 0
abbrev g81_0 (nl6 : OBo) (t6 : Bool) (xs6 : LLC) (ys1 : LLC) (nh2 : Nat) : Fr × Hp := ([(5, V.ptr 0 0 0 0), (6, V.c (C.sl 2 nl6 t6 xs6)), (7, V.ptr 2 0 0 0), (14, V.fn 166 [V.ptr 4 0 0 0, V.ptr 3 0 0 0, V.ptr 5 0 0 0])], [O.box [V.fn 82 []], O.mem 2 0 ys1, O.box [V.buf 1 0 0 nh2], O.gone, O.gone, O.gone])
abbrev x81_0n (nl6 : OBo) (t6 : Bool) (xs6 : LLC) (ys1 : LLC) (nh2 : Nat) : Ex × Fr × Hp := (Ex.nrm, [(5, V.ptr 0 0 0 0), (6, V.c (C.sl 2 nl6 t6 xs6)), (7, V.ptr 2 0 0 0), (14, V.fn 166 [V.ptr 4 0 0 0, V.ptr 3 0 0 0, V.ptr 5 0 0 0])], [O.box [V.fn 82 []], O.mem 2 0 ys1, O.box [V.buf 1 0 0 nh2], O.gone, O.gone, O.gone])
theorem t81_0 (nl6 : OBo) (t6 : Bool) (xs6 : LLC) (ys1 : LLC) (nh2 : Nat) (p : Bys) (zs : LLC) : p81.rts b81_0 ([V.agg [V.c (C.str p), V.c (C.sl 5 none false zs)]]) (g81_0 nl6 t6 xs6 ys1 nh2) = (Tr.br true (Tr.chk true (Tr.chk true (Tr.chk (decide (nh2 + 1 < 4294967296)) (Tr.chk true (Tr.leaf (R.s (g81_0 nl6 t6 xs6 (List.take nh2 ys1 ++ [[C.str p, C.sl 5 none false zs]]) (nh2 + 1)))))))) (Tr.leaf (R.s (g81_0 nl6 t6 xs6 ys1 nh2)))) := by kernel_rfl
theorem k81_0n (nl6 : OBo) (t6 : Bool) (xs6 : LLC) (ys1 : LLC) (nh2 : Nat) : p81.fkx 0 (x81_0n nl6 t6 xs6 ys1 nh2) = (Tr.leaf (R.out [V.c (C.sl 2 none false (List.take nh2 ys1))] [])) := by kernel_rfl
theorem t81 (s : Bys) (rn : OBo) (rt : Bool) (xs : LLC) (kn : OBo) (kt : Bool) (ys : LLC) : p81.ft ([V.agg [V.c (C.str s), V.c (C.sl 5 rn rt xs), V.c (C.sl 3 kn kt ys)], V.fn 82 [], V.fn 82 []]) ([]) = (Tr.chk (isRows xs) (Tr.chk (isL ys) (Tr.br (checkT (Nd.node s (toRows xs) (decL ys)) != 0) (Tr.leaf (R.out [V.c (C.sl 2 none false [])] [])) (Tr.rs 0 (s81_0 s rn rt xs kn kt ys (some true) true ([]) ([]) (0) ([])))))) := by kernel_rfl
def s81 : CSpec := fun a h => match a, h with
  | [.agg [.c (.str s), .c (.sl 5 rn rt xs), .c (.sl 3 kn kt ys)], .fn 82 [], .fn 82 []], [] => some ([isRows xs, isL ys, decide ((entL (decL ys)).length < 1000000000)], [.c (.sl 2 none false (ents (entP (.node s (toRows xs) (decL ys)))))], [])
  | _, _ => none
noncomputable abbrev p34 : Par := par E sh (ctOf [(81, s81)]) 34 1 0
theorem t34 (s : Bys) (rn : OBo) (rt : Bool) (xs : LLC) (kn : OBo) (kt : Bool) (ys : LLC) : p34.ft ([V.agg [V.c (C.str s), V.c (C.sl 5 rn rt xs), V.c (C.sl 3 kn kt ys)]]) ([]) = (Tr.chk (isRows xs) (Tr.chk (isL ys) (Tr.chk (decide ((entL (decL ys)).length < 1000000000)) (Tr.leaf (R.out [V.c (C.sl 2 none false (ents (entP (Nd.node s (toRows xs) (decL ys)))))] []))))) := by kernel_rfl
end Go.Proofs.YtgaabjmbnomimaaDoor
namespace Go.Proofs.YtgaabjmbnomimaaDoor
open Go Go.Ev
theorem ownW_E (q : Bys) (rs : List Row) : ownW q rs = ownE q rs := by
  unfold ownE; cases rs <;> simp [ownW]
mutual
theorem walkT_all : ∀ (q : Bys) (t : Nd), walkT alA q t = pre q (entT t)
  | q, .node s rs ks => by
    rw [walkT_eq, entT_node, ← ownW_E, ← walkL_all (q ++ s) ks]; rfl
theorem walkL_all : ∀ (q : Bys) (l : List Nd), walkL alA q l = pre q (entL l)
  | q, [] => rfl
  | q, t :: r => by rw [walkL, entL, pre_app, walkT_all q t, walkL_all q r]
end
theorem walk_root (ks : List Nd) : walkT alA [] (.node [] [] ks) = entL ks := by
  rw [walkT_all, entT_node, List.nil_append, pre_nil]; rfl
theorem ents_take (l : List Ent) (n : Nat) (h : n = l.length) : List.take n (ents l) = ents l := by rw [h, ← ents_length, List.take_length]
theorem entP_node (s : Bys) (rs : List Row) (ks : List Nd) : entP (.node s rs ks) = cond (okR (.node s rs ks)) (entL ks) [] := rfl
theorem ents_snoc (l : List Ent) (p : Bys) (rs : List Row) : ents l ++ [[C.str p, C.sl 5 none false (rows rs)]] = ents (l ++ [(p, rs)]) := by simp [ents, ee]
theorem f81 (s : Bys) (rn : OBo) (rt : Bool) (rs : List Row) (kn : OBo) (kt : Bool) (ks : List Nd) (hn : (entL ks).length < 1000000000) :
    call E 81 [.agg [.c (.str s), .c (.sl 5 rn rt (rows rs)), .c (.sl 3 kn kt (encL ks))], .fn 82 [], .fn 82 []] [] = some ([.c (.sl 2 none false (ents (entP (.node s rs ks))))], []) := by
  have hct : (ctOf [(28, s28), (134, s134), (82, s82)]).ok E := ctOf_cons s28_ok (ctOf_cons s134_ok (ctOf_cons s82_ok ctOf_nil))
  refine call_of (E := E) (sh := sh) (ct := ctOf [(28, s28), (134, s134), (82, s82)]) (na := 3) (m := 0) hct rfl rfl rfl rfl rfl rfl ?_
  rw [t81]
  simp only [nd_ok, nd_lab, nd_rows, nd_kids, encL_length, isL_enc, decL_enc, wrap_hd, hd_pos, ld_br, ld_chk', ld_leaf, fd_br, fd_chk', fd_leaf, decide_true, decide_eq_true_eq, if_true, Int.toNat_natCast, Int.natCast_nonneg, Int.ofNat_lt, Int.ofNat_le, Bool.false_eq_true, if_false, bne_iff_ne, beq_iff_eq, ne_eq, not_true_eq_false, not_false_eq_true, Bool.not_eq_true', decide_eq_false_iff_not, reduceCtorEq, rows_length, pcs_length, er_ok, er_ok', ep_ok, ep_ok', dr_er, dp_ep, isRows_rows, isPcs_pcs, toRows_rows, toPcs_pcs, rows_take, rows_drop, pcs_take, pcs_drop, rows_append, pcs_append, ints_length, isInts_ints, toInts_ints, ei_i, ei_ok, mk_headD, ints_take, ints_drop, ints_append, ints_snoc, ints_snoc', List.take_length, Nat.zero_add, Nat.le_refl, er_a, er_b, er_k, er_n, er_s, er_v, ep_a, ep_b, ep_hk, ep_hn, ep_hs, ep_wk, ep_wn, ep_ws, checkT_ne]
  rw [entP_node]
  cases c1 : okR (.node s rs ks) with
  | false => rfl
  | true =>
    have c1' := okR_iff.1 c1
    simp only [Nd.lab_node, Nd.rows_node, Nd.kids_node] at c1'
    obtain ⟨rfl, rfl, hk⟩ := c1'
    simp only [Bool.not_true, Bool.false_eq_true, if_false, cond_true]
    refine fd_rpost hct (by kernel_rfl) rfl (ranges_post (p := p81) hct (c := b81_0) (gi := 166) (caps := [.ptr 4 0 0 0, .ptr 3 0 0 0, .ptr 5 0 0 0]) (args := args166)
      (h0 := boxK [] [] rn rt (rows []) kn kt (encL ks)) (ids := [4, 3, 5]) (by kernel_rfl) (entL ks) encE rfl (by kernel_rfl)
      (by have := sq166_ok [] [] rn rt [] kn kt ks; rw [walk_root] at this; exact this)
      (fun u b hw => ⟨_, _, f166 (depL ks + 1) [] [] rn rt [] kn kt ks 24 (Nat.lt_succ_self _) (by simp) hk rfl (.inr rfl) u b (by rw [walk_root]; exact hw), rfl⟩)
      (fun (acc : List Ent) => g81_0 (some true) true [] (ents acc) acc.length) (fun l acc => acc ++ l = entL ks) _ ?_ ?_ [] rfl rfl)
    · rintro ⟨p, prs⟩ l acc hi
      left
      have hlen : acc.length + 1 < 4294967296 := by
        have := congrArg List.length hi
        simp only [List.length_append, List.length_cons] at this; omega
      refine ⟨acc ++ [(p, prs)], by rw [← hi]; simp, ?_⟩
      refine (congrArg _ (t81_0 (some true) true [] (ents acc) acc.length p (rows prs))).trans ?_
      simp only [rd_br, rd_chk', rd_leaf, if_true, hlen, decide_true, ents_take acc acc.length rfl, ents_snoc, List.length_append, List.length_singleton]
    · intro acc hi
      rw [List.append_nil] at hi
      subst hi
      show p81.fd (p81.fkx 0 (x81_0n (some true) true [] (ents (entL ks)) (entL ks).length)) = _
      rw [k81_0n, fd_leaf, ents_take _ _ rfl]
theorem s81_ok : CSpecOk E 81 s81 := by
  intro a h cs vals h' he hc
  unfold s81 at he
  split at he <;> simp only [Option.some.injEq, Prod.mk.injEq, reduceCtorEq] at he
  rename_i s rn rt xs kn kt ys
  obtain ⟨rfl, rfl, rfl⟩ := he
  simp only [allT, Bool.and_true, Bool.and_eq_true, decide_eq_true_eq] at hc
  obtain ⟨h1, h2, h3⟩ := hc
  obtain ⟨rs, rfl⟩ := rows_ex h1
  obtain ⟨ks, rfl⟩ := isL_ex h2
  simp only [toRows_rows, decL_enc] at *
  exact f81 s rn rt rs kn kt ks h3
theorem f34 (s : Bys) (rn : OBo) (rt : Bool) (rs : List Row) (kn : OBo) (kt : Bool) (ks : List Nd) (hn : (entL ks).length < 1000000000) :
    call E 34 [.agg [.c (.str s), .c (.sl 5 rn rt (rows rs)), .c (.sl 3 kn kt (encL ks))]] [] = some ([.c (.sl 2 none false (ents (entP (.node s rs ks))))], []) := by
  refine call_of (E := E) (sh := sh) (ct := ctOf [(81, s81)]) (na := 1) (m := 0) (ctOf_cons s81_ok ctOf_nil) rfl rfl rfl rfl rfl rfl ?_
  rw [t34]
  simp only [nd_ok, nd_lab, nd_rows, nd_kids, encL_length, isL_enc, decL_enc, wrap_hd, hd_pos, ld_br, ld_chk', ld_leaf, fd_br, fd_chk', fd_leaf, decide_true, decide_eq_true_eq, if_true, Int.toNat_natCast, Int.natCast_nonneg, Int.ofNat_lt, Int.ofNat_le, Bool.false_eq_true, if_false, bne_iff_ne, beq_iff_eq, ne_eq, not_true_eq_false, not_false_eq_true, Bool.not_eq_true', decide_eq_false_iff_not, reduceCtorEq, rows_length, pcs_length, er_ok, er_ok', ep_ok, ep_ok', dr_er, dp_ep, isRows_rows, isPcs_pcs, toRows_rows, toPcs_pcs, rows_take, rows_drop, pcs_take, pcs_drop, rows_append, pcs_append, ints_length, isInts_ints, toInts_ints, ei_i, ei_ok, mk_headD, ints_take, ints_drop, ints_append, ints_snoc, ints_snoc', List.take_length, Nat.zero_add, Nat.le_refl, er_a, er_b, er_k, er_n, er_s, er_v, ep_a, ep_b, ep_hk, ep_hn, ep_hs, ep_wk, ep_wn, ep_ws, hn]
def s34 : CSpec := fun a h => match a, h with
  | [.agg [.c (.str s), .c (.sl 5 rn rt xs), .c (.sl 3 kn kt ys)]], [] => some ([isRows xs, isL ys, decide ((entL (decL ys)).length < 1000000000)], [.c (.sl 2 none false (ents (entP (.node s (toRows xs) (decL ys)))))], [])
  | _, _ => none
theorem s34_ok : CSpecOk E 34 s34 := by
  intro a h cs vals h' he hc
  unfold s34 at he
  split at he <;> simp only [Option.some.injEq, Prod.mk.injEq, reduceCtorEq] at he
  rename_i s rn rt xs kn kt ys
  obtain ⟨rfl, rfl, rfl⟩ := he
  simp only [allT, Bool.and_true, Bool.and_eq_true, decide_eq_true_eq] at hc
  obtain ⟨h1, h2, h3⟩ := hc
  obtain ⟨rs, rfl⟩ := rows_ex h1
  obtain ⟨ks, rfl⟩ := isL_ex h2
  simp only [toRows_rows, decL_enc] at *
  exact f34 s rn rt rs kn kt ks h3
end Go.Proofs.YtgaabjmbnomimaaDoor
namespace Go.Proofs.YtgaabjmbnomimaaDoor
open Go Go.Ev
-- cse
def s26 : CSpec := fun a h => match a, h with
  | [.c (.sl 5 nl tt xs), .c (.sl 5 nl2 t2 ys)], [] => some ([isRows xs, isRows ys, decide (xs.length ≤ 9223372036854775807)], [V.b (decide (toRows xs = toRows ys))], [])
  | _, _ => none
mutual
def sameT : Nd → Nd → Bool
  | .node a r k, .node b s l => decide (a = b) && decide (r = s) && sameL k l
def sameL : List Nd → List Nd → Bool
  | [], [] => true
  | x :: p, y :: q => sameT x y && sameL p q
  | _, _ => false
end
noncomputable abbrev p33 : Par := par E sh (ctOf [(26, s26)]) 33 2 0
abbrev s33_0 (nl : OBo) (tt : Bool) (xs : LLC) (nl2 : OBo) (t2 : Bool) (ys : LLC) (i5 : Int) : Fr × Hp := ([(0, V.c (C.sl 2 nl tt xs)), (1, V.c (C.sl 2 nl2 t2 ys)), (5, V.c (C.int IntKind.i64 i5))], [])
noncomputable abbrev b33_0 : Code := loopAt (codeOf E (33)) 0
abbrev x33_0x0 : Ex × Fr × Hp := (Ex.ret, [(4, V.c (C.bool false))], [])
abbrev x33_0x1 (nl : OBo) (tt : Bool) (xs : LLC) (nl2 : OBo) (t2 : Bool) (ys : LLC) (i5 : Int) : Ex × Fr × Hp := (Ex.exit 0, [(0, V.c (C.sl 2 nl tt xs)), (1, V.c (C.sl 2 nl2 t2 ys)), (5, V.c (C.int IntKind.i64 i5)), (14, V.c (C.bool false))], [])
theorem t33_0 (nl : OBo) (tt : Bool) (xs : LLC) (nl2 : OBo) (t2 : Bool) (ys : LLC) (i5 : Int) : p33.lts b33_0 (s33_0 nl tt xs nl2 t2 ys i5) = (Tr.br (decide (i5 < (↑xs.length : Int))) (Tr.chk (decide (0 ≤ i5)) (Tr.chk true (Tr.chk (decide (i5.toNat < xs.length)) (Tr.chk (shOk [Sk.str, Sk.sl 5] (xs.getD i5.toNat [])) (Tr.chk (decide (0 ≤ i5)) (Tr.chk true (Tr.chk (decide (i5.toNat < ys.length)) (Tr.chk (shOk [Sk.str, Sk.sl 5] (ys.getD i5.toNat [])) (Tr.br (!((xs.getD i5.toNat []).headD C.pnil).st == ((ys.getD i5.toNat []).headD C.pnil).st) (Tr.leaf (R.x x33_0x0)) (Tr.chk (decide (0 ≤ i5)) (Tr.chk true (Tr.chk (decide (i5.toNat < xs.length)) (Tr.chk (shOk [Sk.str, Sk.sl 5] (xs.getD i5.toNat [])) (Tr.chk (decide (0 ≤ i5)) (Tr.chk true (Tr.chk (decide (i5.toNat < ys.length)) (Tr.chk (shOk [Sk.str, Sk.sl 5] (ys.getD i5.toNat [])) (Tr.chk (isRows ((xs.getD i5.toNat []).tail.headD C.pnil).xs) (Tr.chk (isRows ((ys.getD i5.toNat []).tail.headD C.pnil).xs) (Tr.chk (decide (((xs.getD i5.toNat []).tail.headD C.pnil).xs.length ≤ 9223372036854775807)) (Tr.br (!decide (toRows ((xs.getD i5.toNat []).tail.headD C.pnil).xs = toRows ((ys.getD i5.toNat []).tail.headD C.pnil).xs)) (Tr.leaf (R.x x33_0x0)) (Tr.leaf (R.s (s33_0 nl tt xs nl2 t2 ys (IntKind.i64.wrap (i5 + 1)))))))))))))))))))))))))) (Tr.leaf (R.x (x33_0x1 nl tt xs nl2 t2 ys i5)))) := by kernel_rfl
theorem k33_0x1 (nl : OBo) (tt : Bool) (xs : LLC) (nl2 : OBo) (t2 : Bool) (ys : LLC) (i5 : Int) : p33.fkx 0 (x33_0x1 nl tt xs nl2 t2 ys i5) = (Tr.leaf (R.out [V.c (C.bool true)] [])) := by kernel_rfl
theorem t33 (nl : OBo) (tt : Bool) (xs : LLC) (nl2 : OBo) (t2 : Bool) (ys : LLC) : p33.ft ([V.c (C.sl 2 nl tt xs), V.c (C.sl 2 nl2 t2 ys)]) ([]) = (Tr.br ((↑xs.length : Int) != (↑ys.length : Int)) (Tr.leaf (R.out [V.c (C.bool false)] [])) (Tr.ls 0 (s33_0 nl tt xs nl2 t2 ys (0)))) := by kernel_rfl
variable (dd : Nat)
def s17 : CSpec := fun a h => match a, h with
  | [.agg [.c (.str s), .c (.sl 5 rn rt xs), .c (.sl 3 kn kt ys)], .agg [.c (.str s2), .c (.sl 5 rn2 rt2 xs2), .c (.sl 3 kn2 kt2 ys2)]], [] => some ([isRows xs, isL ys, isRows xs2, isL ys2, decide (depL (decL ys) < dd), lensT (.node s (toRows xs) (decL ys))], [V.b (sameT (.node s (toRows xs) (decL ys)) (.node s2 (toRows xs2) (decL ys2)))], [])
  | _, _ => none
noncomputable abbrev p17 : Par := par E sh (ctOf [(26, s26), (17, s17 dd)]) 17 2 0
abbrev s17_0 (s : Bys) (rn : OBo) (rt : Bool) (xs : LLC) (kn : OBo) (kt : Bool) (ys : LLC) (s2 : Bys) (rn2 : OBo) (rt2 : Bool) (xs2 : LLC) (kn2 : OBo) (kt2 : Bool) (ys2 : LLC) (i5 : Int) : Fr × Hp := ([(2, V.ptr 0 0 0 0), (3, V.ptr 1 0 0 0), (5, V.c (C.int IntKind.i64 i5))], [O.box [V.c (C.str s), V.c (C.sl 5 rn rt xs), V.c (C.sl 3 kn kt ys)], O.box [V.c (C.str s2), V.c (C.sl 5 rn2 rt2 xs2), V.c (C.sl 3 kn2 kt2 ys2)]])
noncomputable abbrev b17_0 : Code := loopAt (codeOf E (17)) 0
abbrev x17_0x0 (s : Bys) (rn : OBo) (rt : Bool) (xs : LLC) (kn : OBo) (kt : Bool) (ys : LLC) (s2 : Bys) (rn2 : OBo) (rt2 : Bool) (xs2 : LLC) (kn2 : OBo) (kt2 : Bool) (ys2 : LLC) : Ex × Fr × Hp := (Ex.ret, [(4, V.c (C.bool false))], [O.box [V.c (C.str s), V.c (C.sl 5 rn rt xs), V.c (C.sl 3 kn kt ys)], O.box [V.c (C.str s2), V.c (C.sl 5 rn2 rt2 xs2), V.c (C.sl 3 kn2 kt2 ys2)]])
abbrev x17_0x1 (s : Bys) (rn : OBo) (rt : Bool) (xs : LLC) (kn : OBo) (kt : Bool) (ys : LLC) (s2 : Bys) (rn2 : OBo) (rt2 : Bool) (xs2 : LLC) (kn2 : OBo) (kt2 : Bool) (ys2 : LLC) (i5 : Int) : Ex × Fr × Hp := (Ex.exit 0, [(2, V.ptr 0 0 0 0), (3, V.ptr 1 0 0 0), (5, V.c (C.int IntKind.i64 i5)), (32, V.c (C.bool false))], [O.box [V.c (C.str s), V.c (C.sl 5 rn rt xs), V.c (C.sl 3 kn kt ys)], O.box [V.c (C.str s2), V.c (C.sl 5 rn2 rt2 xs2), V.c (C.sl 3 kn2 kt2 ys2)]])
theorem t17_0 (s : Bys) (rn : OBo) (rt : Bool) (xs : LLC) (kn : OBo) (kt : Bool) (ys : LLC) (s2 : Bys) (rn2 : OBo) (rt2 : Bool) (xs2 : LLC) (kn2 : OBo) (kt2 : Bool) (ys2 : LLC) (i5 : Int) : (p17 dd).lts b17_0 (s17_0 s rn rt xs kn kt ys s2 rn2 rt2 xs2 kn2 kt2 ys2 i5) = (Tr.br (decide (i5 < (↑ys.length : Int))) (Tr.chk (decide (0 ≤ i5)) (Tr.chk true (Tr.chk (decide (i5.toNat < ys.length)) (Tr.chk (shOk [Sk.str, Sk.sl 5, Sk.sl 3] (ys.getD i5.toNat [])) (Tr.chk (decide (0 ≤ i5)) (Tr.chk true (Tr.chk (decide (i5.toNat < ys2.length)) (Tr.chk (shOk [Sk.str, Sk.sl 5, Sk.sl 3] (ys2.getD i5.toNat [])) (Tr.chk (isRows ((ys.getD i5.toNat []).tail.headD C.pnil).xs) (Tr.chk (isL ((ys.getD i5.toNat []).tail.tail.headD C.pnil).xs) (Tr.chk (isRows ((ys2.getD i5.toNat []).tail.headD C.pnil).xs) (Tr.chk (isL ((ys2.getD i5.toNat []).tail.tail.headD C.pnil).xs) (Tr.chk (decide (depL (decL ((ys.getD i5.toNat []).tail.tail.headD C.pnil).xs) < dd)) (Tr.chk (lensT (Nd.node ((ys.getD i5.toNat []).headD C.pnil).st (toRows ((ys.getD i5.toNat []).tail.headD C.pnil).xs) (decL ((ys.getD i5.toNat []).tail.tail.headD C.pnil).xs))) (Tr.br (!sameT (Nd.node ((ys.getD i5.toNat []).headD C.pnil).st (toRows ((ys.getD i5.toNat []).tail.headD C.pnil).xs) (decL ((ys.getD i5.toNat []).tail.tail.headD C.pnil).xs)) (Nd.node ((ys2.getD i5.toNat []).headD C.pnil).st (toRows ((ys2.getD i5.toNat []).tail.headD C.pnil).xs) (decL ((ys2.getD i5.toNat []).tail.tail.headD C.pnil).xs))) (Tr.leaf (R.x (x17_0x0 s rn rt xs kn kt ys s2 rn2 rt2 xs2 kn2 kt2 ys2))) (Tr.leaf (R.s (s17_0 s rn rt xs kn kt ys s2 rn2 rt2 xs2 kn2 kt2 ys2 (IntKind.i64.wrap (i5 + 1)))))))))))))))))))) (Tr.leaf (R.x (x17_0x1 s rn rt xs kn kt ys s2 rn2 rt2 xs2 kn2 kt2 ys2 i5)))) := by kernel_rfl
theorem k17_0x0 (dd : Nat) (s : Bys) (rn : OBo) (rt : Bool) (xs : LLC) (kn : OBo) (kt : Bool) (ys : LLC) (s2 : Bys) (rn2 : OBo) (rt2 : Bool) (xs2 : LLC) (kn2 : OBo) (kt2 : Bool) (ys2 : LLC) : (p17 dd).fkx 0 (x17_0x0 s rn rt xs kn kt ys s2 rn2 rt2 xs2 kn2 kt2 ys2) = (Tr.leaf (R.out [V.c (C.bool false)] [])) := by kernel_rfl
theorem k17_0x1 (dd : Nat) (s : Bys) (rn : OBo) (rt : Bool) (xs : LLC) (kn : OBo) (kt : Bool) (ys : LLC) (s2 : Bys) (rn2 : OBo) (rt2 : Bool) (xs2 : LLC) (kn2 : OBo) (kt2 : Bool) (ys2 : LLC) (i5 : Int) : (p17 dd).fkx 0 (x17_0x1 s rn rt xs kn kt ys s2 rn2 rt2 xs2 kn2 kt2 ys2 i5) = (Tr.leaf (R.out [V.c (C.bool true)] [])) := by kernel_rfl
theorem t17 (s : Bys) (rn : OBo) (rt : Bool) (xs : LLC) (kn : OBo) (kt : Bool) (ys : LLC) (s2 : Bys) (rn2 : OBo) (rt2 : Bool) (xs2 : LLC) (kn2 : OBo) (kt2 : Bool) (ys2 : LLC) : (p17 dd).ft ([V.agg [V.c (C.str s), V.c (C.sl 5 rn rt xs), V.c (C.sl 3 kn kt ys)], V.agg [V.c (C.str s2), V.c (C.sl 5 rn2 rt2 xs2), V.c (C.sl 3 kn2 kt2 ys2)]]) ([]) = (Tr.br (!s == s2) (Tr.leaf (R.out [V.c (C.bool false)] [])) (Tr.chk (isRows xs) (Tr.chk (isRows xs2) (Tr.chk (decide (xs.length ≤ 9223372036854775807)) (Tr.br (!decide (toRows xs = toRows xs2)) (Tr.leaf (R.out [V.c (C.bool false)] [])) (Tr.br ((↑ys.length : Int) != (↑ys2.length : Int)) (Tr.leaf (R.out [V.c (C.bool false)] [])) (Tr.ls 0 (s17_0 s rn rt xs kn kt ys s2 rn2 rt2 xs2 kn2 kt2 ys2 (0))))))))) := by kernel_rfl
end Go.Proofs.YtgaabjmbnomimaaDoor
namespace Go.Proofs.YtgaabjmbnomimaaDoor
open Go Go.Ev
theorem s26_ok : CSpecOk E 26 s26 := by
  intro a h cs vals h' he hc
  unfold s26 at he
  split at he <;> simp only [Option.some.injEq, Prod.mk.injEq, reduceCtorEq] at he
  rename_i nl tt xs nl2 t2 ys
  obtain ⟨rfl, rfl, rfl⟩ := he
  simp only [allT, Bool.and_true, Bool.and_eq_true, decide_eq_true_eq] at hc
  obtain ⟨h1, h2, h3⟩ := hc
  obtain ⟨l, rfl⟩ := rows_ex h1
  obtain ⟨m, rfl⟩ := rows_ex h2
  simp only [toRows_rows, rows_length] at *
  exact f26 l m nl tt nl2 t2 h3
def s98 : CSpec := fun a h => match a, h with
  | [.c (.sl 5 nl tt xs), .c (.sl 5 nl2 t2 ys)], [] => some ([isRows xs, isRows ys, decide (xs.length ≤ 9223372036854775807)], [V.b (decide (toRows xs = toRows ys))], [])
  | _, _ => none
mutual
theorem sameT_iff : ∀ (a b : Nd), sameT a b = true ↔ a = b
  | .node a r k, .node b s l => by
    rw [sameT]
    simp only [Bool.and_eq_true, decide_eq_true_eq, sameL_iff k l, Nd.node.injEq, and_assoc]
theorem sameL_iff : ∀ (a b : List Nd), sameL a b = true ↔ a = b
  | [], [] => by simp [sameL]
  | x :: p, y :: q => by simp only [sameL, Bool.and_eq_true, sameT_iff x y, sameL_iff p q, List.cons.injEq]
  | [], _ :: _ => by simp [sameL]
  | _ :: _, [] => by simp [sameL]
end
theorem sameT_refl (a : Nd) : sameT a a = true := (sameT_iff a a).2 rfl
theorem sameT_dec (a b : Nd) : sameT a b = false ↔ a ≠ b := by rw [← Bool.not_eq_true, sameT_iff]
theorem sameL_ne {a b : List Nd} (h : a ≠ b) : sameL a b = false := by rw [← Bool.not_eq_true, sameL_iff]; exact h
theorem f17 (dd : Nat) (ih : CSpecOk E 17 (s17 dd)) (t t2 : Nd) (rn : OBo) (rt : Bool) (kn : OBo) (kt : Bool) (rn2 : OBo) (rt2 : Bool) (kn2 : OBo) (kt2 : Bool) (hd : depL t.kids < dd + 1) (hl : lensT t = true) :
    call E 17 [.agg [.c (.str t.lab), .c (.sl 5 rn rt (rows t.rows)), .c (.sl 3 kn kt (encL t.kids))], .agg [.c (.str t2.lab), .c (.sl 5 rn2 rt2 (rows t2.rows)), .c (.sl 3 kn2 kt2 (encL t2.kids))]] [] = some ([V.b (sameT t t2)], []) := by
  have hct : (ctOf [(26, s26), (17, s17 dd)]).ok E := ctOf_cons s26_ok (ctOf_cons ih ctOf_nil)
  refine call_of (E := E) (sh := sh) (ct := ctOf [(26, s26), (17, s17 dd)]) (na := 2) (m := 0) hct rfl rfl rfl rfl rfl rfl ?_
  show (p17 dd).fd ((p17 dd).ft _ _) = _
  obtain ⟨s, rs, ks⟩ := t
  obtain ⟨s2, rs2, ks2⟩ := t2
  rw [lensT] at hl
  simp only [Nd.lab_node, Nd.rows_node, Nd.kids_node, Bool.and_eq_true, decide_eq_true_eq] at hd hl ⊢
  obtain ⟨⟨⟨l1, l2⟩, l3⟩, l4⟩ := hl
  rw [t17, sameT]
  have e1 : (!s == s2) = !decide (s = s2) := by rw [beqL]
  simp only [nd_ok, nd_lab, nd_rows, nd_kids, encL_length, isL_enc, decL_enc, wrap_hd, hd_pos, ld_br, ld_chk', ld_leaf, fd_br, fd_chk', fd_leaf, decide_true, decide_eq_true_eq, if_true, Int.toNat_natCast, Int.natCast_nonneg, Int.ofNat_lt, Int.ofNat_le, Bool.false_eq_true, if_false, bne_iff_ne, beq_iff_eq, ne_eq, not_true_eq_false, not_false_eq_true, Bool.not_eq_true', decide_eq_false_iff_not, reduceCtorEq, rows_length, pcs_length, er_ok, er_ok', ep_ok, ep_ok', dr_er, dp_ep, isRows_rows, isPcs_pcs, toRows_rows, toPcs_pcs, rows_take, rows_drop, pcs_take, pcs_drop, rows_append, pcs_append, ints_length, isInts_ints, toInts_ints, ei_i, ei_ok, mk_headD, ints_take, ints_drop, ints_append, ints_snoc, ints_snoc', List.take_length, Nat.zero_add, Nat.le_refl, er_a, er_b, er_k, er_n, er_s, er_v, ep_a, ep_b, ep_hk, ep_hn, ep_hs, ep_wk, ep_wn, ep_ws, e1, l2]
  by_cases c1 : s = s2
  case neg => simp [c1]
  by_cases c2 : rs = rs2
  case neg => simp [c1, c2]
  by_cases c3 : ks.length = ks2.length
  case neg =>
    have : ks ≠ ks2 := fun e => c3 (by rw [e])
    rw [sameL_ne this]
    simp [c1, c2, show ¬ (ks.length : Int) = ks2.length by omega]
  subst c1; subst c2
  have c3' : (ks.length : Int) = ks2.length := by omega
  simp only [c3', decide_true, Bool.not_true, Bool.false_eq_true, if_false, Bool.true_and, not_true_eq_false]
  refine fd_post hct (by kernel_rfl) rfl (list_post (p := p17 dd) hct (b := b17_0) ks.length (fun k (_ : Unit) => s17_0 s rn rt (rows rs) kn kt (encL ks) s rn2 rt2 (rows rs) kn2 kt2 (encL ks2) k) (fun k _ => ks.take k = ks2.take k) _ ?_ ?_ 0 (Nat.zero_le _) () (by simp))
  · intro k _ hk hi
    have hm : k < ks2.length := by omega
    have hkid : depL ks[k].kids < dd := by have := depL_kid (List.getElem_mem hk); omega
    rw [t17_0]
    simp only [nd_ok, nd_lab, nd_rows, nd_kids, encL_length, isL_enc, decL_enc, wrap_hd, hd_pos, ld_br, ld_chk', ld_leaf, fd_br, fd_chk', fd_leaf, decide_true, decide_eq_true_eq, if_true, Int.toNat_natCast, Int.natCast_nonneg, Int.ofNat_lt, Int.ofNat_le, Bool.false_eq_true, if_false, bne_iff_ne, beq_iff_eq, ne_eq, not_true_eq_false, not_false_eq_true, Bool.not_eq_true', decide_eq_false_iff_not, reduceCtorEq, rows_length, pcs_length, er_ok, er_ok', ep_ok, ep_ok', dr_er, dp_ep, isRows_rows, isPcs_pcs, toRows_rows, toPcs_pcs, rows_take, rows_drop, pcs_take, pcs_drop, rows_append, pcs_append, ints_length, isInts_ints, toInts_ints, ei_i, ei_ok, mk_headD, ints_take, ints_drop, ints_append, ints_snoc, ints_snoc', List.take_length, Nat.zero_add, Nat.le_refl, er_a, er_b, er_k, er_n, er_s, er_v, ep_a, ep_b, ep_hk, ep_hn, ep_hs, ep_wk, ep_wn, ep_ws, hk, hm, encL_getD hk, encL_getD hm, nd_node, hkid, lensL_mem l4 (List.getElem_mem hk), wrap_succ (show k < 9223372036854775807 by omega)]
    by_cases he : ks[k] = ks2[k]
    · left
      refine ⟨(), take_ext hi hk hm he, ?_⟩
      rw [(sameT_iff _ _).2 he]; rfl
    · right
      refine ⟨x17_0x0 s rn rt (rows rs) kn kt (encL ks) s rn2 rt2 (rows rs) kn2 kt2 (encL ks2), by simp, ?_, by rw [(sameT_dec _ _).2 he]; rfl⟩
      rw [k17_0x0, fd_leaf, sameL_ne (fun e => he (by subst e; rfl))]
  · intro _ hi
    rw [t17_0]
    refine ⟨x17_0x1 s rn rt (rows rs) kn kt (encL ks) s rn2 rt2 (rows rs) kn2 kt2 (encL ks2) ks.length, by simp, ?_, by simp only [nd_ok, nd_lab, nd_rows, nd_kids, encL_length, isL_enc, decL_enc, wrap_hd, hd_pos, ld_br, ld_chk', ld_leaf, fd_br, fd_chk', fd_leaf, decide_true, decide_eq_true_eq, if_true, Int.toNat_natCast, Int.natCast_nonneg, Int.ofNat_lt, Int.ofNat_le, Bool.false_eq_true, if_false, bne_iff_ne, beq_iff_eq, ne_eq, not_true_eq_false, not_false_eq_true, Bool.not_eq_true', decide_eq_false_iff_not, reduceCtorEq, rows_length, pcs_length, er_ok, er_ok', ep_ok, ep_ok', dr_er, dp_ep, isRows_rows, isPcs_pcs, toRows_rows, toPcs_pcs, rows_take, rows_drop, pcs_take, pcs_drop, rows_append, pcs_append, ints_length, isInts_ints, toInts_ints, ei_i, ei_ok, mk_headD, ints_take, ints_drop, ints_append, ints_snoc, ints_snoc', List.take_length, Nat.zero_add, Nat.le_refl, er_a, er_b, er_k, er_n, er_s, er_v, ep_a, ep_b, ep_hk, ep_hn, ep_hs, ep_wk, ep_wn, ep_ws, Int.lt_irrefl]⟩
    rw [List.take_length, c3, List.take_length] at hi
    rw [k17_0x1, fd_leaf, (sameL_iff _ _).2 hi]
theorem s17_ok : ∀ d, CSpecOk E 17 (s17 d)
  | 0 => by
    intro a h cs vals h' he hc
    unfold s17 at he
    split at he <;> simp only [Option.some.injEq, Prod.mk.injEq, reduceCtorEq] at he
    obtain ⟨rfl, rfl, rfl⟩ := he
    simp [allT] at hc
  | d + 1 => by
    intro a h cs vals h' he hc
    unfold s17 at he
    split at he <;> simp only [Option.some.injEq, Prod.mk.injEq, reduceCtorEq] at he
    rename_i s rn rt xs kn kt ys s2 rn2 rt2 xs2 kn2 kt2 ys2
    obtain ⟨rfl, rfl, rfl⟩ := he
    simp only [allT, Bool.and_true, Bool.and_eq_true, decide_eq_true_eq] at hc
    obtain ⟨h1, h2, h3, h4, h5, h6⟩ := hc
    obtain ⟨rs, rfl⟩ := rows_ex h1
    obtain ⟨ks, rfl⟩ := isL_ex h2
    obtain ⟨rs2, rfl⟩ := rows_ex h3
    obtain ⟨ks2, rfl⟩ := isL_ex h4
    simp only [toRows_rows, decL_enc] at *
    exact f17 d (s17_ok d) (.node s rs ks) (.node s2 rs2 ks2) rn rt kn kt rn2 rt2 kn2 kt2 h5 h6
def s17n : CSpec := fun a h => match a, h with
  | [.agg [.c (.str s), .c (.sl 5 rn rt xs), .c (.sl 3 kn kt ys)], .agg [.c (.str s2), .c (.sl 5 rn2 rt2 xs2), .c (.sl 3 kn2 kt2 ys2)]], [] => some ([isRows xs, isL ys, isRows xs2, isL ys2, lensT (.node s (toRows xs) (decL ys))], [V.b (sameT (.node s (toRows xs) (decL ys)) (.node s2 (toRows xs2) (decL ys2)))], [])
  | _, _ => none
theorem s17n_ok : CSpecOk E 17 s17n := by
  intro a h cs vals h' he hc
  unfold s17n at he
  split at he <;> simp only [Option.some.injEq, Prod.mk.injEq, reduceCtorEq] at he
  rename_i s rn rt xs kn kt ys s2 rn2 rt2 xs2 kn2 kt2 ys2
  obtain ⟨rfl, rfl, rfl⟩ := he
  simp only [allT, Bool.and_true, Bool.and_eq_true, decide_eq_true_eq] at hc
  obtain ⟨h1, h2, h3, h4, h6⟩ := hc
  obtain ⟨rs, rfl⟩ := rows_ex h1
  obtain ⟨ks, rfl⟩ := isL_ex h2
  obtain ⟨rs2, rfl⟩ := rows_ex h3
  obtain ⟨ks2, rfl⟩ := isL_ex h4
  simp only [toRows_rows, decL_enc] at *
  exact f17 (depL ks) (s17_ok _) (.node s rs ks) (.node s2 rs2 ks2) rn rt kn kt rn2 rt2 kn2 kt2 (Nat.lt_succ_self _) h6
mutual
theorem okT_lens : ∀ (t : Nd) (n : Nat), n ≤ 24 → okT t n = true → lensT t = true
  | .node s rs ks, n, hn, h => by
    obtain ⟨g1, g2, g3, g4, g5⟩ := okT_iff.1 h
    simp only [Nd.lab_node, Nd.rows_node, Nd.kids_node] at g1 g2 g3 g4 g5
    have h1 := right_len4 g3
    have h2 := okL_len (okL_iff'.2 g5) (by omega)
    rw [lensT, kidsOk_lens ks _ (by omega) g5]
    simp only [Bool.and_true, Bool.and_eq_true, decide_eq_true_eq]
    omega
theorem kidsOk_lens : ∀ (l : List Nd) (n : Nat), n ≤ 24 → kidsOk l n → lensL l = true
  | [], _, _, _ => rfl
  | t :: r, n, hn, h => by
    rw [lensL, okT_lens t n hn (h.1 t (by simp)), kidsOk_lens r n hn (kidsOk_sub h (List.sublist_cons_self _ _))]; rfl
end
theorem okR_lens {t : Nd} (h : okR t = true) : lensT t = true := by
  obtain ⟨h1, h2, h3⟩ := okR_iff.1 h
  have h4 := okL_len (okL_iff'.2 h3) (by omega)
  rw [lensT_eq, h1, h2, kidsOk_lens _ 24 (Nat.le_refl _) h3]
  simp; omega
end Go.Proofs.YtgaabjmbnomimaaDoor
namespace Go.Proofs.YtgaabjmbnomimaaDoor
open Go Go.Ev
-- cse
end Go.Proofs.YtgaabjmbnomimaaDoor
namespace Go.Proofs.YtgaabjmbnomimaaDoor
open Go Go.Ev
-- cse
end Go.Proofs.YtgaabjmbnomimaaDoor
namespace Go.Proofs.YtgaabjmbnomimaaDoor
open Go Go.Ev
theorem bl_gt {p q : List UInt8} (h : Op.bytesLess q p = false) (k : q ≠ p) : Op.bytesLess p q = true := by
  cases c : Op.bytesLess p q with
  | true => rfl
  | false => exact absurd (bl_total _ _ h c) k
theorem look_in {l : List Ent} {e : Ent} (h : Rise l) (he : e ∈ l) : look l e.1 = e.2 := by
  induction l with
  | nil => cases he
  | cons a l ih =>
    rw [Rise, List.pairwise_cons] at h
    rw [look]
    rcases List.mem_cons.1 he with rfl | he
    · rw [if_pos rfl]
    · rw [if_neg (bl_ne (h.1 e he)), ih h.2 he]
theorem look_ex {l : List Ent} {q : List UInt8} (h : look l q ≠ []) : ∃ e ∈ l, e.1 = q := by
  induction l with
  | nil => exact absurd rfl h
  | cons a l ih =>
    rw [look] at h
    split at h
    · rename_i c; exact ⟨a, by simp, c⟩
    · obtain ⟨e, h1, h2⟩ := ih h; exact ⟨e, by simp [h1], h2⟩
theorem rise_ext : ∀ {x y : List Ent}, Rise x → Rise y → (∀ e ∈ x, e.2 ≠ []) → (∀ e ∈ y, e.2 ≠ []) → (∀ q, look x q = look y q) → x = y
  | [], [], _, _, _, _, _ => rfl
  | [], e :: l, _, hy, _, ny, h => by
    have := h e.1
    rw [look_in hy (by simp)] at this
    exact absurd this.symm (ny e (by simp))
  | e :: l, [], hx, _, nx, _, h => by
    have := h e.1
    rw [look_in hx (by simp)] at this
    exact absurd this (nx e (by simp))
  | e :: l, d :: m, hx, hy, nx, ny, h => by
    have hx' := hx; have hy' := hy
    rw [Rise, List.pairwise_cons] at hx' hy'
    have key : ∀ {e d : Ent} {l m : List Ent}, Rise (e :: l) → (∀ a ∈ m, Op.bytesLess d.1 a.1 = true) → e.2 ≠ [] → look (e :: l) e.1 = look (d :: m) e.1 → Op.bytesLess e.1 d.1 = false := fun {e d l m} hx hm ne hh => by
      rw [look_in hx (by simp)] at hh
      obtain ⟨a, ha, hae⟩ := look_ex (l := d :: m) (q := e.1) (by rw [← hh]; exact ne)
      rw [← hae]
      rcases List.mem_cons.1 ha with rfl | ha
      · exact bl_irrefl _
      · exact bl_asymm (hm a ha)
    have e1 : e.1 = d.1 := bl_total _ _ (key hx hy'.1 (nx e (by simp)) (h e.1)) (key hy hx'.1 (ny d (by simp)) (h d.1).symm)
    have e2 : e.2 = d.2 := by
      have := h e.1
      rw [look_in hx (by simp), e1, look_in hy (by simp)] at this; exact this
    have ed : e = d := Prod.ext e1 e2
    subst ed
    have hl : l = m := by
      refine rise_ext hx'.2 hy'.2 (fun a ha => nx a (by simp [ha])) (fun a ha => ny a (by simp [ha])) fun q => ?_
      by_cases c : e.1 = q
      · rw [look_none fun a ha k => bl_ne (hx'.1 a ha) (by rw [k, c]), look_none fun a ha k => bl_ne (hy'.1 a ha) (by rw [k, c])]
      · have := h q
        rw [look, look, if_neg c, if_neg c] at this; exact this
    rw [hl]
abbrev Pne (x : List Ent) : Prop := ∀ e ∈ x, e.1 ≠ []
abbrev Rne (x : List Ent) : Prop := ∀ e ∈ x, e.2 ≠ []
structure SP (x y z : List Ent) (S : List Sd) : Prop where
  rise : S.Pairwise fun s t => Op.bytesLess s.p t.p = true
  ne : ∀ s ∈ S, s.p ≠ []
  a : ∀ s ∈ S, s.a = look x s.p
  b : ∀ s ∈ S, s.b = look y s.p
  c : ∀ s ∈ S, s.c = look z s.p
  mem : ∀ s ∈ S, ∃ e, (e ∈ x ∨ e ∈ y ∨ e ∈ z) ∧ e.1 = s.p
  all : ∀ e, e ∈ x ∨ e ∈ y ∨ e ∈ z → ∃ s ∈ S, s.p = e.1
structure Gd (x : List Ent) : Prop where
  rise : Rise x
  pne : Pne x
  rne : Rne x
  len : ∀ e ∈ x, e.1.length ≤ 24
  right : ∀ e ∈ x, right e.2 = true
theorem Gd.nil : Gd [] := ⟨.nil, by simp, by simp, by simp, by simp⟩
mutual
theorem entT_len24 : ∀ (t : Nd) (n : Nat), okT t n = true → ∀ e ∈ entT t, e.1.length ≤ n
  | .node s rs ks, n, h, e, he => by
    obtain ⟨g1, g2, g3, g4, g5⟩ := okT_iff.1 h
    simp only [Nd.lab_node, Nd.rows_node, Nd.kids_node] at g2 g5
    rw [entT] at he
    rcases List.mem_append.1 he with he | he
    · split at he
      · cases he
      · simp only [List.mem_singleton] at he; subst he; exact g2
    · obtain ⟨d, hd, rfl⟩ := List.mem_map.1 he
      have := entL_len24 ks _ g5 d hd
      simp only [List.length_append]; omega
theorem entL_len24 : ∀ (l : List Nd) (n : Nat), kidsOk l n → ∀ e ∈ entL l, e.1.length ≤ n
  | [], _, _, e, he => by simp [entL] at he
  | t :: r, n, h, e, he => by
    rw [entL] at he
    rcases List.mem_append.1 he with he | he
    · exact entT_len24 t n (h.1 t (by simp)) e he
    · exact entL_len24 r n (kidsOk_sub h (List.sublist_cons_self _ _)) e he
end
theorem gd_ent {t : Nd} (h : okR t = true) : Gd (entR t) :=
  have hk := (okR_iff.1 h).2.2
  ⟨entR_rise h, entL_ne_nil hk, entL_ne _, entL_len24 _ _ hk, entL_right _ _ hk⟩
theorem entP_R {t : Nd} (h : okR t = true) : entP t = entR t := by rw [entP, h]; rfl
theorem gd_entP (t : Nd) : Gd (entP t) := by
  rw [entP]
  cases h : okR t with
  | false => exact Gd.nil
  | true => exact gd_ent h
def nd0 : Nd := .node [] [] []
theorem nd0_ok : okR nd0 = true := rfl
end Go.Proofs.YtgaabjmbnomimaaDoor
namespace Go.Proofs.YtgaabjmbnomimaaDoor
open Go Go.Ev
section
variable {x y z : List Ent} {S : List Sd} (hs : SP x y z S) (hx : Gd x) (hy : Gd y) (hz : Gd z)
include hs
omit hs in
include hx hy hz
end
end Go.Proofs.YtgaabjmbnomimaaDoor
namespace Go.Proofs.YtgaabjmbnomimaaDoor
open Go Go.Ev
-- cse
end Go.Proofs.YtgaabjmbnomimaaDoor
namespace Go.Proofs.YtgaabjmbnomimaaDoor
open Go Go.Ev
theorem right_len63 {l : List Row} (h : right l = true) : l.length ≤ 9223372036854775807 := by have := right_len4 h; omega
theorem entP_len (t : Nd) (h : (entL t.kids).length < 1000000000) : (entP t).length < 1000000000 := by
  rw [entP]; cases okR t
  · simp
  · exact h
end Go.Proofs.YtgaabjmbnomimaaDoor
namespace Go.Proofs.YtgaabjmbnomimaaDoor
open Go Go.Ev
-- cse
variable (dd : Nat)
end Go.Proofs.YtgaabjmbnomimaaDoor
namespace Go.Proofs.YtgaabjmbnomimaaDoor
open Go Go.Ev
mutual
theorem leftT_ent : ∀ (t : Nd) (n d : Int), 0 ≤ n → 0 < leftT t n d → ((entT t).length : Int) ≤ n - leftT t n d
  | .node lab rs ks, n, d, h0, h => by
    rw [leftT] at h ⊢
    split at h
    · omega
    · rename_i hc
      rw [if_neg hc]
      have := leftL_ent ks (n - 1 - ((lab.length / 50 : Nat) : Int)) (d - 1) (by omega) h
      have hl := entT_node [] lab rs ks
      rw [pre_nil] at hl
      rw [hl, List.length_append, pre_length]
      have ho : (ownE ([] ++ lab) rs).length ≤ 1 := by unfold ownE; split <;> simp
      omega
theorem leftL_ent : ∀ (l : List Nd) (n d : Int), 0 ≤ n → 0 < leftL l n d → ((entL l).length : Int) ≤ n - leftL l n d
  | [], n, d, h0, h => by rw [leftL, entL]; simp
  | t :: r, n, d, h0, h => by
    rw [leftL] at h ⊢
    split at h
    · rename_i hn
      rw [if_pos hn]
      have hle := leftT_le t n d h0
      have hpos : 0 < leftT t n d := by
        have := (leftL_le r (leftT t n d) d hle.1).2; omega
      have h1 := leftT_ent t n d h0 hpos
      have h2 := leftL_ent r (leftT t n d) d hle.1 h
      rw [entL, List.length_append]
      omega
    · omega
end
theorem str_ok (p : Bys) : shOk [.str] [C.str p] = true := rfl
theorem str_hd (p : Bys) (d : C) : (([C.str p] : List C).headD d).st = p := rfl
end Go.Proofs.YtgaabjmbnomimaaDoor
namespace Go.Proofs.YtgaabjmbnomimaaDoor
open Go Go.Ev
def dE (x : List C) : Ent := ((x.headD .pnil).st, toRows (x.tail.headD .pnil).xs)
def isE (x : List C) : Bool := shOk [.str, .sl 5] x && isRows (x.tail.headD .pnil).xs
def isEs (xs : LLC) : Bool := xs.all isE
def toEs (xs : LLC) : List Ent := xs.map dE
theorem dE_ee (e : Ent) : dE (ee e) = e := by unfold dE; rw [ee_p, ee_r, toRows_rows]
theorem isE_ee (e : Ent) : isE (ee e) = true := by unfold isE; rw [ee_ok, ee_r, isRows_rows]; rfl
theorem isE_of {x : List C} (h : isE x = true) : x = ee (dE x) := by
  simp only [isE, Bool.and_eq_true] at h
  have h4 := shape_ok h.1
  have : ee (dE x) = Go.Ev.shape [.str, .sl 5] x := by
    show [C.str (x.headD .pnil).st, C.sl 5 none false (rows (toRows (x.tail.headD .pnil).xs))] = _
    rw [← rows_of h.2]; rfl
  rw [this]; exact h4.symm
theorem ents_ex {xs : List (List C)} (h : isEs xs = true) : ∃ l, xs = ents l := by
  refine ⟨toEs xs, ?_⟩
  unfold isEs at h
  rw [List.all_eq_true] at h
  unfold ents toEs
  rw [List.map_map]
  conv => lhs; rw [← List.map_id xs]
  exact List.map_congr_left fun x hx => isE_of (h x hx)
theorem isEs_ents (l : List Ent) : isEs (ents l) = true := by simp [isEs, ents, isE_ee]
theorem toEs_ents (l : List Ent) : toEs (ents l) = l := by simp [toEs, ents, dE_ee, Function.comp_def]
def IsN (d : Nat) (l : List Ent) (n : Int) (t : Nd) : Prop := ∃ q m, okT t m = true ∧ q.length + m ≤ 24 ∧ depT t < d ∧ n = (q.length : Nat) ∧ l = pre' q (entT t)
def IsK (d : Nat) (l : List Ent) (n : Int) (ks : List Nd) : Prop := ∃ q m, kidsOk ks m ∧ q.length + m ≤ 24 ∧ depL ks < d ∧ n = (q.length : Nat) ∧ l = pre' q (entL ks)
theorem IsN.uniq {d d' : Nat} {l : List Ent} {n : Int} {t u : Nd} (h : IsN d l n t) (k : IsN d' l n u) : t = u := by
  obtain ⟨q, m, h1, h2, _, h4, h5⟩ := h
  obtain ⟨q', m', k1, k2, _, k4, k5⟩ := k
  have e1 := nodeF_ent t q (sizeT t + sizeT u) m h1 h2 (by omega)
  have e2 := nodeF_ent u q' (sizeT t + sizeT u) m' k1 k2 (by omega)
  rw [← h5] at e1
  rw [← k5] at e2
  have : q.length = q'.length := by omega
  rw [this] at e1
  exact e1.symm.trans e2
theorem IsK.uniq {d d' : Nat} {l : List Ent} {n : Int} {t u : List Nd} (h : IsK d l n t) (k : IsK d' l n u) : t = u := by
  obtain ⟨q, m, h1, h2, _, h4, h5⟩ := h
  obtain ⟨q', m', k1, k2, _, k4, k5⟩ := k
  have e1 := belowF_ent t q (sizeL t + sizeL u) m h1 h2 (by omega)
  have e2 := belowF_ent u q' (sizeL t + sizeL u) m' k1 k2 (by omega)
  rw [← h5] at e1
  rw [← k5] at e2
  have : q.length = q'.length := by omega
  rw [this] at e1
  exact e1.symm.trans e2
open Classical in
noncomputable def hasN (d : Nat) (l : List Ent) (n : Int) : Bool := decide (∃ t, IsN d l n t)
open Classical in
noncomputable def hasK (d : Nat) (l : List Ent) (n : Int) : Bool := decide (∃ t, IsK d l n t)
open Classical in
noncomputable def theN (d : Nat) (l : List Ent) (n : Int) : Nd := if h : ∃ t, IsN d l n t then h.choose else default
open Classical in
noncomputable def theK (d : Nat) (l : List Ent) (n : Int) : List Nd := if h : ∃ t, IsK d l n t then h.choose else []
open Classical in
theorem theN_eq {d : Nat} {l : List Ent} {n : Int} {t : Nd} (h : IsN d l n t) : hasN d l n = true ∧ theN d l n = t := by
  have hx : ∃ t, IsN d l n t := ⟨t, h⟩
  refine ⟨by unfold hasN; exact decide_eq_true hx, ?_⟩
  unfold theN
  rw [dif_pos hx]
  exact hx.choose_spec.uniq h
open Classical in
theorem theK_eq {d : Nat} {l : List Ent} {n : Int} {t : List Nd} (h : IsK d l n t) : hasK d l n = true ∧ theK d l n = t := by
  have hx : ∃ t, IsK d l n t := ⟨t, h⟩
  refine ⟨by unfold hasK; exact decide_eq_true hx, ?_⟩
  unfold theK
  rw [dif_pos hx]
  exact hx.choose_spec.uniq h
open Classical in
theorem hasN_ex {d : Nat} {l : List Ent} {n : Int} (h : hasN d l n = true) : ∃ t, IsN d l n t := by
  unfold hasN at h; exact of_decide_eq_true h
open Classical in
theorem hasK_ex {d : Nat} {l : List Ent} {n : Int} (h : hasK d l n = true) : ∃ t, IsK d l n t := by
  unfold hasK at h; exact of_decide_eq_true h
end Go.Proofs.YtgaabjmbnomimaaDoor
namespace Go.Proofs.YtgaabjmbnomimaaDoor
open Go Go.Ev
-- cse
variable (dd : Nat)
noncomputable abbrev p178 : Par := par E sh (ctOf []) 178 2 0
abbrev s178_0 (nl : OBo) (tt : Bool) (xs : LLC) (n : Int) : Fr × Hp := ([(0, V.c (C.sl 2 nl tt xs)), (5, V.c (C.int IntKind.i64 n))], [])
noncomputable abbrev b178_0 : Code := loopAt (codeOf E (178)) 0
abbrev x178_0x0 (n : Int) : Ex × Fr × Hp := (Ex.ret, [(4, V.c (C.int IntKind.i64 n))], [])
abbrev s178_0_0 (nl : OBo) (tt : Bool) (xs : LLC) (n : Int) (i6 : Int) : Fr × Hp := ([(0, V.c (C.sl 2 nl tt xs)), (5, V.c (C.int IntKind.i64 n)), (6, V.c (C.int IntKind.i64 i6))], [])
noncomputable abbrev b178_0_0 : Code := loopAt b178_0 0
abbrev x178_0_0x0 (n : Int) : Ex × Fr × Hp := (Ex.ret, [(4, V.c (C.int IntKind.i64 n))], [])
abbrev x178_0_0x1 (nl : OBo) (tt : Bool) (xs : LLC) (n : Int) (i6 : Int) : Ex × Fr × Hp := (Ex.exit 2, [(0, V.c (C.sl 2 nl tt xs)), (5, V.c (C.int IntKind.i64 n)), (6, V.c (C.int IntKind.i64 i6)), (23, V.c (C.bool false))], [])
theorem t178_0_0 (nl : OBo) (tt : Bool) (xs : LLC) (n : Int) (i6 : Int) : p178.lts b178_0_0 (s178_0_0 nl tt xs n i6) = (Tr.br (decide (i6 < (↑xs.length : Int))) (Tr.chk (decide (0 ≤ i6)) (Tr.chk true (Tr.chk (decide (i6.toNat < xs.length)) (Tr.chk (shOk [Sk.str, Sk.sl 5] (xs.getD i6.toNat [])) (Tr.br (decide ((↑((xs.getD i6.toNat []).headD C.pnil).st.length : Int) ≤ n)) (Tr.leaf (R.x (x178_0_0x0 n))) (Tr.chk (decide (0 ≤ i6)) (Tr.chk true (Tr.chk (decide (i6.toNat < xs.length)) (Tr.chk (shOk [Sk.str, Sk.sl 5] (xs.getD i6.toNat [])) (Tr.chk (decide (0 ≤ n)) (Tr.chk (decide (n.toNat < ((xs.getD i6.toNat []).headD C.pnil).st.length)) (Tr.chk true (Tr.chk true (Tr.chk (decide (Int.toNat 0 < xs.length)) (Tr.chk (shOk [Sk.str, Sk.sl 5] (xs.getD (Int.toNat 0) [])) (Tr.chk (decide (0 ≤ n)) (Tr.chk (decide (n.toNat < ((xs.getD (Int.toNat 0) []).headD C.pnil).st.length)) (Tr.br ((↑(((xs.getD i6.toNat []).headD C.pnil).st.getD n.toNat 0).toNat : Int) != (↑(((xs.getD (Int.toNat 0) []).headD C.pnil).st.getD n.toNat 0).toNat : Int)) (Tr.leaf (R.x (x178_0_0x0 n))) (Tr.leaf (R.s (s178_0_0 nl tt xs n (IntKind.i64.wrap (i6 + 1))))))))))))))))))))))) (Tr.leaf (R.x (x178_0_0x1 nl tt xs n i6)))) := by kernel_rfl
theorem k178_0_0x0 (n : Int) : p178.lkx b178_0 0 (x178_0_0x0 n) = (Tr.leaf (R.x (x178_0x0 n))) := by kernel_rfl
theorem k178_0_0x1 (nl : OBo) (tt : Bool) (xs : LLC) (n : Int) (i6 : Int) : p178.lkx b178_0 0 (x178_0_0x1 nl tt xs n i6) = (Tr.leaf (R.s (s178_0 nl tt xs (IntKind.i64.wrap (n + 1))))) := by kernel_rfl
theorem t178_0 (nl : OBo) (tt : Bool) (xs : LLC) (n : Int) : p178.lts b178_0 (s178_0 nl tt xs n) = (Tr.chk true (Tr.chk true (Tr.chk (decide (Int.toNat 0 < xs.length)) (Tr.chk (shOk [Sk.str, Sk.sl 5] (xs.getD (Int.toNat 0) [])) (Tr.br (decide ((↑((xs.getD (Int.toNat 0) []).headD C.pnil).st.length : Int) ≤ n)) (Tr.leaf (R.x (x178_0x0 n))) (Tr.br (decide (24 ≤ n)) (Tr.leaf (R.x (x178_0x0 n))) (Tr.ls 0 (s178_0_0 nl tt xs n (0))))))))) := by kernel_rfl
theorem k178_0x0 (n : Int) : p178.fkx 0 (x178_0x0 n) = (Tr.leaf (R.out [V.c (C.int IntKind.i64 n)] [])) := by kernel_rfl
theorem t178 (nl : OBo) (tt : Bool) (xs : LLC) (n : Int) : p178.ft ([V.c (C.sl 2 nl tt xs), V.i n]) ([]) = (Tr.ls 0 (s178_0 nl tt xs n)) := by kernel_rfl
def s178 : CSpec := fun a h => match a, h with
  | [.c (.sl 2 nl tt xs), .c (.int .i64 n)], [] => some ([isEs xs, decide (xs ≠ []), decide (xs.length < 4294967296), decide (0 ≤ n), decide (n ≤ 24)], [V.i ((commonL (toEs xs) n.toNat : Nat) : Int)], [])
  | _, _ => none
noncomputable def s132 : CSpec := fun a h => match a, h with
  | [.c (.sl 2 nl tt xs), .c (.int .i64 n)], [] => some ([isEs xs, decide (xs.length < 4294967295), hasK dd (toEs xs) n], [.c (.sl 3 none false (encL (theK dd (toEs xs) n)))], [])
  | _, _ => none
noncomputable abbrev p164 : Par := par E sh (ctOf [(178, s178), (132, s132 dd)]) 164 2 0
theorem t164 (nl : OBo) (tt : Bool) (xs : LLC) (n : Int) : (p164 dd).ft ([V.c (C.sl 2 nl tt xs), V.i n]) ([]) = (Tr.chk (isEs xs) (Tr.chk (decide (xs ≠ [])) (Tr.chk (decide (xs.length < 4294967296)) (Tr.chk (decide (0 ≤ n)) (Tr.chk (decide (n ≤ 24)) (Tr.chk true (Tr.chk true (Tr.chk (decide (Int.toNat 0 < xs.length)) (Tr.chk (shOk [Sk.str, Sk.sl 5] (xs.getD (Int.toNat 0) [])) (Tr.chk (decide (0 ≤ n)) (Tr.chk true (Tr.chk (decide (n.toNat ≤ (↑(commonL (toEs xs) n.toNat) : Int).toNat)) (Tr.chk (decide ((↑(commonL (toEs xs) n.toNat) : Int).toNat ≤ ((xs.getD (Int.toNat 0) []).headD C.pnil).st.length)) (Tr.chk true (Tr.chk true (Tr.chk (decide (Int.toNat 0 < xs.length)) (Tr.chk (shOk [Sk.str, Sk.sl 5] (xs.getD (Int.toNat 0) [])) (Tr.br ((↑((xs.getD (Int.toNat 0) []).headD C.pnil).st.length : Int) == (↑(commonL (toEs xs) n.toNat) : Int)) (Tr.chk true (Tr.chk true (Tr.chk (decide (Int.toNat 0 < xs.length)) (Tr.chk (shOk [Sk.str, Sk.sl 5] (xs.getD (Int.toNat 0) [])) (Tr.chk true (Tr.chk (decide (Int.toNat 1 ≤ xs.length)) (Tr.chk (decide (xs.length ≤ xs.length)) (Tr.chk true (Tr.chk (isEs (List.drop (Int.toNat 1) (List.take xs.length xs))) (Tr.chk (decide ((List.drop (Int.toNat 1) (List.take xs.length xs)).length < 4294967295)) (Tr.chk (hasK dd (toEs (List.drop (Int.toNat 1) (List.take xs.length xs))) (↑(commonL (toEs xs) n.toNat) : Int)) (Tr.leaf (R.out [V.agg [V.c (C.str (List.drop n.toNat (List.take (↑(commonL (toEs xs) n.toNat) : Int).toNat ((xs.getD (Int.toNat 0) []).headD C.pnil).st))), V.c (C.sl 5 none false ((xs.getD (Int.toNat 0) []).tail.headD C.pnil).xs), V.c (C.sl 3 none false (encL (theK dd (toEs (List.drop (Int.toNat 1) (List.take xs.length xs))) (↑(commonL (toEs xs) n.toNat) : Int))))]] []))))))))))))) (Tr.chk (isEs xs) (Tr.chk (decide (xs.length < 4294967295)) (Tr.chk (hasK dd (toEs xs) (↑(commonL (toEs xs) n.toNat) : Int)) (Tr.leaf (R.out [V.agg [V.c (C.str (List.drop n.toNat (List.take (↑(commonL (toEs xs) n.toNat) : Int).toNat ((xs.getD (Int.toNat 0) []).headD C.pnil).st))), V.c (C.sl 5 none false []), V.c (C.sl 3 none false (encL (theK dd (toEs xs) (↑(commonL (toEs xs) n.toNat) : Int))))]] []))))))))))))))))))))))) := by kernel_rfl
noncomputable def s164 : CSpec := fun a h => match a, h with
  | [.c (.sl 2 nl tt xs), .c (.int .i64 n)], [] => some ([isEs xs, decide (xs.length < 4294967295), hasN (dd + 1) (toEs xs) n], [VT (theN (dd + 1) (toEs xs) n)], [])
  | _, _ => none
noncomputable abbrev p132 : Par := par E sh (ctOf [(164, s164 dd)]) 132 2 0
abbrev s132_0 (nl0 : OBo) (t0 : Bool) (xs0 : LLC) (i1 : Int) (n5 : Nat) (i6 : Int) (ys0 : LLC) : Fr × Hp := ([(0, V.c (C.sl 2 nl0 t0 xs0)), (1, V.c (C.int IntKind.i64 i1)), (5, V.buf 0 0 0 n5), (6, V.c (C.int IntKind.i64 i6))], [O.mem 3 0 ys0])
noncomputable abbrev b132_0 : Code := loopAt (codeOf E (132)) 0
abbrev s132_0_0 (nl0_1 : OBo) (t0_1 : Bool) (xs0_1 : LLC) (i1_1 : Int) (n5_1 : Nat) (i6_1 : Int) (i7 : Int) (ys0_1 : LLC) : Fr × Hp := ([(0, V.c (C.sl 2 nl0_1 t0_1 xs0_1)), (1, V.c (C.int IntKind.i64 i1_1)), (5, V.buf 0 0 0 n5_1), (6, V.c (C.int IntKind.i64 i6_1)), (7, V.c (C.int IntKind.i64 i7))], [O.mem 3 0 ys0_1])
noncomputable abbrev b132_0_0 : Code := loopAt b132_0 0
abbrev x132_0_0x0 (nl0_1 : OBo) (t0_1 : Bool) (xs0_1 : LLC) (i1_1 : Int) (n5_1 : Nat) (i6_1 : Int) (i7 : Int) (ys0_1 : LLC) : Ex × Fr × Hp := (Ex.exit 2, [(0, V.c (C.sl 2 nl0_1 t0_1 xs0_1)), (1, V.c (C.int IntKind.i64 i1_1)), (5, V.buf 0 0 0 n5_1), (6, V.c (C.int IntKind.i64 i6_1)), (7, V.c (C.int IntKind.i64 i7)), (33, V.c (C.bool false))], [O.mem 3 0 ys0_1])
abbrev x132_0x0 (nl0 : OBo) (t0 : Bool) (xs0 : LLC) (i1 : Int) (n5 : Nat) (i6 : Int) (ys0 : LLC) : Ex × Fr × Hp := (Ex.exit 0, [(0, V.c (C.sl 2 nl0 t0 xs0)), (1, V.c (C.int IntKind.i64 i1)), (5, V.buf 0 0 0 n5), (6, V.c (C.int IntKind.i64 i6)), (11, V.c (C.bool false))], [O.mem 3 0 ys0])
theorem t132_0_0 (nl0_1 : OBo) (t0_1 : Bool) (xs0_1 : LLC) (i1_1 : Int) (n5_1 : Nat) (i6_1 : Int) (i7 : Int) (ys0_1 : LLC) : (p132 dd).lts b132_0_0 (s132_0_0 nl0_1 t0_1 xs0_1 i1_1 n5_1 i6_1 i7 ys0_1) = (Tr.br (decide (i7 < (↑xs0_1.length : Int))) (Tr.chk (decide (0 ≤ i7)) (Tr.chk true (Tr.chk (decide (i7.toNat < xs0_1.length)) (Tr.chk (shOk [Sk.str, Sk.sl 5] (xs0_1.getD i7.toNat [])) (Tr.chk (decide (0 ≤ i1_1)) (Tr.chk (decide (i1_1.toNat < ((xs0_1.getD i7.toNat []).headD C.pnil).st.length)) (Tr.chk (decide (0 ≤ i6_1)) (Tr.chk true (Tr.chk (decide (i6_1.toNat < xs0_1.length)) (Tr.chk (shOk [Sk.str, Sk.sl 5] (xs0_1.getD i6_1.toNat [])) (Tr.chk (decide (0 ≤ i1_1)) (Tr.chk (decide (i1_1.toNat < ((xs0_1.getD i6_1.toNat []).headD C.pnil).st.length)) (Tr.br ((↑(((xs0_1.getD i7.toNat []).headD C.pnil).st.getD i1_1.toNat 0).toNat : Int) == (↑(((xs0_1.getD i6_1.toNat []).headD C.pnil).st.getD i1_1.toNat 0).toNat : Int)) (Tr.leaf (R.s (s132_0_0 nl0_1 t0_1 xs0_1 i1_1 n5_1 i6_1 (IntKind.i64.wrap (i7 + 1)) ys0_1))) (Tr.leaf (R.x (x132_0_0x0 nl0_1 t0_1 xs0_1 i1_1 n5_1 i6_1 i7 ys0_1)))))))))))))))) (Tr.leaf (R.x (x132_0_0x0 nl0_1 t0_1 xs0_1 i1_1 n5_1 i6_1 i7 ys0_1)))) := by kernel_rfl
theorem k132_0_0x0 (dd : Nat) (nl0_1 : OBo) (t0_1 : Bool) (xs0_1 : LLC) (i1_1 : Int) (n5_1 : Nat) (i6_1 : Int) (i7 : Int) (ys0_1 : LLC) : (p132 dd).lkx b132_0 0 (x132_0_0x0 nl0_1 t0_1 xs0_1 i1_1 n5_1 i6_1 i7 ys0_1) = (Tr.chk (decide (0 ≤ i6_1)) (Tr.chk (decide (0 ≤ i7)) (Tr.chk (decide (i6_1.toNat ≤ i7.toNat)) (Tr.chk (decide (i7.toNat ≤ xs0_1.length)) (Tr.chk true (Tr.chk (isEs (List.drop i6_1.toNat (List.take i7.toNat xs0_1))) (Tr.chk (decide ((List.drop i6_1.toNat (List.take i7.toNat xs0_1)).length < 4294967295)) (Tr.chk (hasN (dd + 1) (toEs (List.drop i6_1.toNat (List.take i7.toNat xs0_1))) i1_1) (Tr.chk true (Tr.chk true (Tr.chk (decide (n5_1 + 1 < 4294967296)) (Tr.chk true (Tr.leaf (R.s (s132_0 nl0_1 t0_1 xs0_1 i1_1 (n5_1 + 1) i7 (List.take n5_1 ys0_1 ++ [[C.str (theN (dd + 1) (toEs (List.drop i6_1.toNat (List.take i7.toNat xs0_1))) i1_1).lab, C.sl 5 none false (rows (theN (dd + 1) (toEs (List.drop i6_1.toNat (List.take i7.toNat xs0_1))) i1_1).rows), C.sl 3 none false (encL (theN (dd + 1) (toEs (List.drop i6_1.toNat (List.take i7.toNat xs0_1))) i1_1).kids)]])))))))))))))))) := by kernel_rfl
theorem t132_0 (nl0 : OBo) (t0 : Bool) (xs0 : LLC) (i1 : Int) (n5 : Nat) (i6 : Int) (ys0 : LLC) : (p132 dd).lts b132_0 (s132_0 nl0 t0 xs0 i1 n5 i6 ys0) = (Tr.br (decide (i6 < (↑xs0.length : Int))) (Tr.ls 0 (s132_0_0 nl0 t0 xs0 i1 n5 i6 i6 ys0)) (Tr.leaf (R.x (x132_0x0 nl0 t0 xs0 i1 n5 i6 ys0)))) := by kernel_rfl
theorem k132_0x0 (dd : Nat) (nl0 : OBo) (t0 : Bool) (xs0 : LLC) (i1 : Int) (n5 : Nat) (i6 : Int) (ys0 : LLC) : (p132 dd).fkx 0 (x132_0x0 nl0 t0 xs0 i1 n5 i6 ys0) = (Tr.leaf (R.out [V.c (C.sl 3 none false (List.take n5 ys0))] [])) := by kernel_rfl
theorem t132 (nl : OBo) (tt : Bool) (xs : LLC) (n : Int) : (p132 dd).ft ([V.c (C.sl 2 nl tt xs), V.i n]) ([]) = (Tr.ls 0 (s132_0 nl tt xs n (0) (0) ([]))) := by kernel_rfl
noncomputable abbrev p79 : Par := par E sh (ctOf [(132, s132 dd)]) 79 1 0
theorem t79 (nl : OBo) (tt : Bool) (xs : LLC) : (p79 dd).ft ([V.c (C.sl 2 nl tt xs)]) ([]) = (Tr.chk (isEs xs) (Tr.chk (decide (xs.length < 4294967295)) (Tr.chk (hasK dd (toEs xs) 0) (Tr.leaf (R.out [V.agg [V.c (C.str []), V.c (C.sl 5 none false []), V.c (C.sl 3 none false (encL (theK dd (toEs xs) 0)))]] []))))) := by kernel_rfl
end Go.Proofs.YtgaabjmbnomimaaDoor
namespace Go.Proofs.YtgaabjmbnomimaaDoor
open Go Go.Ev
def likeB (h : Ent) (n : Nat) (e : Ent) : Bool := decide (n < e.1.length) && decide (at0 e.1 n = at0 h.1 n)
theorem byte_ne (a b : UInt8) : (((a.toNat : Nat) : Int) != ((b.toNat : Nat) : Int)) = !decide (a = b) := by
  by_cases h : a = b
  · simp [h]
  · have : a.toNat ≠ b.toNat := fun e => h (UInt8.toNat_inj.1 e)
    have h2 : ((a.toNat : Nat) : Int) ≠ ((b.toNat : Nat) : Int) := by omega
    simp [h, h2]
theorem at0_def (p : Bys) (n : Nat) : p.getD n 0 = at0 p n := rfl
theorem inner178 (nl : OBo) (tt : Bool) (h : Ent) (r : List Ent) (n : Nat) (hl : (h :: r).length < 4294967296) (hn : n < 24) (hh : n < h.1.length) :
    p178.ld b178_0 (Tr.ls 0 (s178_0_0 nl tt (ents (h :: r)) n 0)) = if ((h :: r).all (likeB h n)) = true then some (R.s (s178_0 nl tt (ents (h :: r)) ((n + 1 : Nat) : Int))) else some (R.x (x178_0x0 n)) := by
  have h0 : (ents (h :: r)).getD (Int.toNat 0) [] = ee h := rfl
  have h00 : Int.toNat 0 < (h :: r).length := Nat.succ_pos _
  refine ld_post (p := p178) ctOf_nil (by kernel_rfl) (by split <;> rfl) (list_post (p := p178) ctOf_nil (b := b178_0_0) (h :: r).length (fun k (_ : Unit) => s178_0_0 nl tt (ents (h :: r)) n k) (fun k _ => ((h :: r).drop k).all (likeB h n) = (h :: r).all (likeB h n)) _ ?_ ?_ 0 (Nat.zero_le _) () rfl)
  · intro k _ hk hi
    rw [List.drop_eq_getElem_cons hk, List.all_cons] at hi
    have go : p178.ld b178_0_0 (p178.lts b178_0_0 (s178_0_0 nl tt (ents (h :: r)) n k)) = if likeB h n (h :: r)[k] = true then some (R.s (s178_0_0 nl tt (ents (h :: r)) n ((k + 1 : Nat) : Int))) else some (R.x (x178_0_0x0 n)) := by
      rw [t178_0_0]
      unfold likeB
      simp only [ld_br, ld_chk', ld_leaf, fd_br, fd_chk', fd_leaf, decide_true, decide_eq_true_eq, if_true, Int.toNat_natCast, Int.natCast_nonneg, Int.ofNat_lt, Int.ofNat_le, Bool.false_eq_true, if_false, bne_iff_ne, beq_iff_eq, ne_eq, not_true_eq_false, not_false_eq_true, Bool.not_eq_true', decide_eq_false_iff_not, reduceCtorEq, rows_length, pcs_length, er_ok, er_ok', ep_ok, ep_ok', dr_er, dp_ep, isRows_rows, isPcs_pcs, toRows_rows, toPcs_pcs, rows_take, rows_drop, pcs_take, pcs_drop, rows_append, pcs_append, ints_length, isInts_ints, toInts_ints, ei_i, ei_ok, mk_headD, ints_take, ints_drop, ints_append, ints_snoc, ints_snoc', List.take_length, Nat.zero_add, Nat.le_refl, er_a, er_b, er_k, er_n, er_s, er_v, ep_a, ep_b, ep_hk, ep_hn, ep_hs, ep_wk, ep_wn, ep_ws, ents_length, hk, ents_getD hk, h0, h00, ee_ok, ee_p, hh, byte_ne, at0_def, wrap_succ (show k < 9223372036854775807 by omega)]
      by_cases c : n < (h :: r)[k].1.length
      · have : ¬ (((h :: r)[k].1.length : Nat) ≤ n) := by omega
        simp only [c, this, decide_true, if_true, if_false, Bool.true_and, decide_eq_true_eq]
        by_cases d : at0 (h :: r)[k].1 n = at0 h.1 n
        · simp [d]
        · simp [d]
      · have : ((h :: r)[k].1.length : Nat) ≤ n := by omega
        simp [c, this]
    cases c : likeB h n (h :: r)[k] with
    | true =>
      rw [c, if_pos rfl] at go
      rw [c, Bool.true_and] at hi
      exact .inl ⟨(), hi, go⟩
    | false =>
      rw [c, if_neg (by simp)] at go
      rw [c, Bool.false_and] at hi
      refine .inr ⟨x178_0_0x0 n, by simp, ?_, go⟩
      rw [k178_0_0x0, ld_leaf, ← hi]; rfl
  · intro _ hi
    rw [List.drop_length, List.all_nil] at hi
    refine ⟨x178_0_0x1 nl tt (ents (h :: r)) n (h :: r).length, by simp, ?_, ?_⟩
    · rw [k178_0_0x1, ld_leaf, ← hi, wrap_succ (show n < 9223372036854775807 by omega)]; rfl
    · rw [t178_0_0]; simp only [ld_br, ld_chk', ld_leaf, fd_br, fd_chk', fd_leaf, decide_true, decide_eq_true_eq, if_true, Int.toNat_natCast, Int.natCast_nonneg, Int.ofNat_lt, Int.ofNat_le, Bool.false_eq_true, if_false, bne_iff_ne, beq_iff_eq, ne_eq, not_true_eq_false, not_false_eq_true, Bool.not_eq_true', decide_eq_false_iff_not, reduceCtorEq, rows_length, pcs_length, er_ok, er_ok', ep_ok, ep_ok', dr_er, dp_ep, isRows_rows, isPcs_pcs, toRows_rows, toPcs_pcs, rows_take, rows_drop, pcs_take, pcs_drop, rows_append, pcs_append, ints_length, isInts_ints, toInts_ints, ei_i, ei_ok, mk_headD, ints_take, ints_drop, ints_append, ints_snoc, ints_snoc', List.take_length, Nat.zero_add, Nat.le_refl, er_a, er_b, er_k, er_n, er_s, er_v, ep_a, ep_b, ep_hk, ep_hn, ep_hs, ep_wk, ep_wn, ep_ws, ents_length, Int.lt_irrefl]
theorem commonF_cons (h : Ent) (r : List Ent) (f n : Nat) : commonF (h :: r) (f + 1) n = if n ≥ h.1.length ∨ n ≥ 24 then n else if ((h :: r).all (likeB h n)) = true then commonF (h :: r) f (n + 1) else n := rfl
theorem f178 (nl : OBo) (tt : Bool) (l : List Ent) (n : Nat) (hne : l ≠ []) (hl : l.length < 4294967296) (hn : n ≤ 24) : call E 178 [.c (.sl 2 nl tt (ents l)), V.i n] [] = some ([V.i (commonL l n : Nat)], []) := by
  refine call_of (E := E) (sh := sh) (ct := ctOf []) (na := 2) (m := 0) ctOf_nil rfl rfl rfl rfl rfl rfl ?_
  obtain ⟨h, r, rfl⟩ : ∃ h r, l = h :: r := by cases l with | nil => exact absurd rfl hne | cons h r => exact ⟨h, r, rfl⟩
  rw [t178]
  have h0 : (ents (h :: r)).getD (Int.toNat 0) [] = ee h := rfl
  have h00 : Int.toNat 0 < (h :: r).length := Nat.succ_pos _
  refine fd_post (p := p178) ctOf_nil (by kernel_rfl) rfl (loops_post (p := p178) ctOf_nil (b := b178_0) (ι := Nat) (fun k => s178_0 nl tt (ents (h :: r)) k) (fun k => k ≤ 24 ∧ ∃ f, 25 ≤ f + k ∧ commonF (h :: r) f k = commonL (h :: r) n) (fun k => 25 - k) _ ?_ n ⟨hn, 25, by omega, rfl⟩)
  rintro k ⟨hk, f, hf, hc⟩
  obtain ⟨f, rfl⟩ : ∃ g, f = g + 1 := ⟨f - 1, by omega⟩
  rw [commonF_cons] at hc
  have stop : commonL (h :: r) n = k → ∀ X, p178.ld b178_0 X = some (R.x (x178_0x0 k)) → ∃ x : Ex × Fr × Hp, x.1 ≠ .nrm ∧ p178.fd (p178.fkx 0 x) = some (.out [V.i (commonL (h :: r) n : Nat)] []) ∧ p178.ld b178_0 X = some (R.x x) := fun e X hX =>
    ⟨x178_0x0 k, by simp, by rw [k178_0x0, fd_leaf, e], hX⟩
  by_cases c1 : k ≥ h.1.length ∨ k ≥ 24
  · rw [if_pos c1] at hc
    refine .inr (stop hc.symm _ ?_)
    rw [t178_0]
    simp only [ld_br, ld_chk', ld_leaf, fd_br, fd_chk', fd_leaf, decide_true, decide_eq_true_eq, if_true, Int.toNat_natCast, Int.natCast_nonneg, Int.ofNat_lt, Int.ofNat_le, Bool.false_eq_true, if_false, bne_iff_ne, beq_iff_eq, ne_eq, not_true_eq_false, not_false_eq_true, Bool.not_eq_true', decide_eq_false_iff_not, reduceCtorEq, rows_length, pcs_length, er_ok, er_ok', ep_ok, ep_ok', dr_er, dp_ep, isRows_rows, isPcs_pcs, toRows_rows, toPcs_pcs, rows_take, rows_drop, pcs_take, pcs_drop, rows_append, pcs_append, ints_length, isInts_ints, toInts_ints, ei_i, ei_ok, mk_headD, ints_take, ints_drop, ints_append, ints_snoc, ints_snoc', List.take_length, Nat.zero_add, Nat.le_refl, er_a, er_b, er_k, er_n, er_s, er_v, ep_a, ep_b, ep_hk, ep_hn, ep_hs, ep_wk, ep_wn, ep_ws, ents_length, h0, h00, ee_ok, ee_p]
    by_cases d : h.1.length ≤ k
    · rw [if_pos (by omega)]
    · rw [if_neg (by omega), if_pos (by omega)]
  · rw [if_neg c1] at hc
    have go : p178.ld b178_0 (p178.lts b178_0 (s178_0 nl tt (ents (h :: r)) k)) = p178.ld b178_0 (Tr.ls 0 (s178_0_0 nl tt (ents (h :: r)) k 0)) := by
      rw [t178_0]
      simp only [ld_br, ld_chk', decide_eq_true_eq, if_true, ents_length, h0, h00, ee_ok, ee_p, decide_true]
      rw [if_neg (by omega), if_neg (by omega)]
    rw [inner178 nl tt h r k hl (by omega) (by omega)] at go
    by_cases c2 : ((h :: r).all (likeB h k)) = true
    · rw [if_pos c2] at hc go
      exact .inl ⟨k + 1, ⟨by omega, f, by omega, hc⟩, by omega, go⟩
    · rw [if_neg c2] at hc go
      refine .inr ⟨x178_0x0 k, by simp, by rw [k178_0x0, fd_leaf, ← hc], go⟩
theorem s178_ok : CSpecOk E 178 s178 := by
  intro a h cs vals h' he hc
  unfold s178 at he
  split at he <;> simp only [Option.some.injEq, Prod.mk.injEq, reduceCtorEq] at he
  rename_i nl tt xs n
  obtain ⟨rfl, rfl, rfl⟩ := he
  simp only [allT, Bool.and_true, Bool.and_eq_true, decide_eq_true_eq] at hc
  obtain ⟨h1, h2, h3, h4, h5⟩ := hc
  obtain ⟨l, rfl⟩ := ents_ex h1
  rw [ents_length] at h3
  rw [toEs_ents]
  have := f178 nl tt l n.toNat (fun e => h2 (by rw [e]; rfl)) h3 (by omega)
  rw [Int.toNat_of_nonneg h4] at this
  exact this
theorem node_facts (lab : Bys) (rs : List Row) (ks : List Nd) (q : Bys) (n : Nat) (h : okT (.node lab rs ks) n = true) (hq : q.length + n ≤ 24) :
    commonL (pre' q (entT (.node lab rs ks))) q.length = (q ++ lab).length ∧ pre' q (entT (.node lab rs ks)) ≠ [] ∧ (∃ s0, ((pre' q (entT (.node lab rs ks))).headD default).1 = (q ++ lab) ++ s0) ∧
    (rs = [] → ((pre' q (entT (.node lab rs ks))).headD default).1.length ≠ (q ++ lab).length ∧ pre' q (entT (.node lab rs ks)) = pre' (q ++ lab) (entL ks)) ∧
    (rs ≠ [] → pre' q (entT (.node lab rs ks)) = (q ++ lab, rs) :: pre' (q ++ lab) (entL ks)) := by
  obtain ⟨g1, g2, g3, g4, g5⟩ := okT_iff.1 h
  simp only [Nd.rows_node, Nd.kids_node, Nd.lab_node] at g1 g2 g3 g4 g5
  have hl : pre' q (entT (.node lab rs ks)) = pre' (q ++ lab) (ownB rs ++ entL ks) := by rw [entT_pre']; rfl
  have hne : pre' q (entT (.node lab rs ks)) ≠ [] := by
    have := entT_some _ _ h
    simpa [pre'] using this
  have hlen : ∀ e ∈ pre' q (entT (.node lab rs ks)), ∃ s, e.1 = (q ++ lab) ++ s := by
    rw [hl]
    intro e he
    simp only [pre', List.mem_map] at he
    obtain ⟨x, _, rfl⟩ := he
    exact ⟨x.1, rfl⟩
  have hd : ((pre' q (entT (.node lab rs ks))).headD default) ∈ pre' q (entT (.node lab rs ks)) := by
    cases hx : pre' q (entT (.node lab rs ks)) with | nil => exact absurd hx hne | cons a r => simp
  obtain ⟨s0, hs0⟩ := hlen _ hd
  have hkl : ∀ {k : Nd} {r : List Nd}, ks = k :: r → ∃ x xs, entL ks = x :: xs ∧ hdB x.1 = hdB k.lab ∧ x.1 ≠ [] := fun {k r} hk => by
    have h1 := entT_some k _ (g5.1 k (by rw [hk]; simp))
    cases hx : entT k with
    | nil => exact absurd hx h1
    | cons x xs =>
      obtain ⟨s, hs⟩ := entT_pre k x (by rw [hx]; simp)
      have hkn := (okT_iff.1 (g5.1 k (by rw [hk]; simp))).1
      exact ⟨x, xs ++ entL r, by rw [hk, entL, hx]; rfl, by rw [hs, hdB_app hkn], by rw [hs]; simp [hkn]⟩
  have hrs : rs = [] → ∃ k1 k2 r, ks = k1 :: k2 :: r := fun c => by
    have h2 : 2 ≤ ks.length := by rcases g4 with g | g; exact absurd c g; exact g
    match ks, h2 with
    | k1 :: k2 :: r, _ => exact ⟨k1, k2, r, rfl⟩
  have hcom : commonL (pre' q (entT (.node lab rs ks))) q.length = (q ++ lab).length := by
    refine commonF_go _ _ (fun e he => ?_) (by simp; omega) hne (fun n hn e he => ?_) ?_ 25 q.length (by simp) (by simp; omega)
    · obtain ⟨s, hs⟩ := hlen e he
      rw [hs]; simp
    · obtain ⟨s, hs⟩ := hlen e he
      rw [hs, hs0, at0_pre hn, at0_pre hn]
    · by_cases c : rs = []
      · obtain ⟨k1, k2, r, hk⟩ := hrs c
        obtain ⟨x, xs, e1, e2, e3⟩ := hkl hk
        have h3 := entT_some k2 _ (g5.1 k2 (by rw [hk]; simp))
        cases hy : entT k2 with
        | nil => exact absurd hy h3
        | cons y ys =>
          obtain ⟨s, hs⟩ := entT_pre k2 y (by rw [hy]; simp)
          have hkn := (okT_iff.1 (g5.1 k2 (by rw [hk]; simp))).1
          have hlt : hdB k1.lab < hdB k2.lab := by have := g5.2; rw [hk, List.pairwise_cons] at this; exact this.1 k2 (by simp)
          refine .inr (.inr ⟨((q ++ lab) ++ y.1, y.2), ?_, .inr ?_⟩)
          · rw [hl]
            refine List.mem_map_of_mem (f := fun e : Ent => ((q ++ lab) ++ e.1, e.2)) ?_
            rw [List.mem_append]; right
            rw [hk]; simp [entL, hy]
          · have e0 : (pre' q (entT (.node lab rs ks))).headD default = ((q ++ lab) ++ x.1, x.2) := by
              rw [hl, c]
              simp [ownB, e1, pre']
            rw [e0]
            simp only
            rw [at0_app, at0_app]
            refine at0_ne ?_
            rw [e2, hs, hdB_app hkn]; omega
      · left
        rw [hl, ownB, if_neg c]
        simp [pre']
  refine ⟨hcom, hne, ⟨s0, hs0⟩, fun c => ?_, fun c => ?_⟩
  · obtain ⟨k1, k2, r, hk⟩ := hrs c
    obtain ⟨x, xs, e1, e2, e3⟩ := hkl hk
    have e0 : pre' q (entT (.node lab rs ks)) = pre' (q ++ lab) (entL ks) := by rw [hl, c]; rfl
    refine ⟨?_, e0⟩
    rw [e0, e1]
    simp only [pre', List.map_cons, List.headD_cons, List.length_append]
    have := List.length_pos_iff.2 e3
    omega
  · rw [hl, ownB, if_neg c]; simp [pre']
theorem f164 (dd : Nat) (ih : CSpecOk E 132 (s132 dd)) (nl : OBo) (tt : Bool) (l : List Ent) (n : Int) (t : Nd) (hl : l.length < 4294967295) (ht : IsN (dd + 1) l n t) :
    call E 164 [.c (.sl 2 nl tt (ents l)), V.i n] [] = some ([VT t], []) := by
  have hct : (ctOf [(178, s178), (132, s132 dd)]).ok E := ctOf_cons s178_ok (ctOf_cons ih ctOf_nil)
  refine call_of (E := E) (sh := sh) (ct := ctOf [(178, s178), (132, s132 dd)]) (na := 2) (m := 0) hct rfl rfl rfl rfl rfl rfl ?_
  show (p164 dd).fd ((p164 dd).ft _ _) = _
  obtain ⟨q, m, h1, h2, h3, rfl, rfl⟩ := ht
  obtain ⟨lab, rs, ks⟩ := t
  obtain ⟨a1, a2, ⟨s0, a3⟩, a4, a5⟩ := node_facts lab rs ks q m h1 h2
  have hk : kidsOk ks (m - lab.length) := (okT_iff.1 h1).2.2.2.2
  have hlm : lab.length ≤ m := (okT_iff.1 h1).2.1
  have hdk : depL ks < dd := by rw [depT_eq] at h3; simp only [Nd.kids_node] at h3; omega
  obtain ⟨b1, b2⟩ := theK_eq (d := dd) (l := pre' (q ++ lab) (entL ks)) (n := ((q ++ lab).length : Nat)) ⟨q ++ lab, m - lab.length, hk, by simp; omega, hdk, rfl, rfl⟩
  generalize hL : pre' q (entT (.node lab rs ks)) = L at *
  obtain ⟨h, r, rfl⟩ : ∃ h r, L = h :: r := by cases L with | nil => exact absurd rfl a2 | cons h r => exact ⟨h, r, rfl⟩
  have h0 : (ents (h :: r)).getD (Int.toNat 0) [] = ee h := rfl
  have h00 : Int.toNat 0 < (h :: r).length := Nat.succ_pos _
  have h01 : Int.toNat 1 ≤ (h :: r).length := Nat.succ_pos _
  have hne : ents (h :: r) ≠ [] := by simp [ents]
  have hl2 : (h :: r).length < 4294967296 := by omega
  have a3' : h.1 = (q ++ lab) ++ s0 := a3
  have hqn : (q.length : Int) ≤ 24 := by omega
  have hcl : q.length ≤ (q ++ lab).length := by simp
  have hch : (q ++ lab).length ≤ h.1.length := by rw [a3']; simp
  have htk : List.drop q.length (List.take (q ++ lab).length h.1) = lab := by rw [a3', List.take_left' rfl]; simp
  have hdr : List.drop (Int.toNat 1) (ents (h :: r)) = ents r := rfl
  rw [t164]
  by_cases c : rs = []
  · obtain ⟨c1, c2⟩ := a4 c
    have c1' : ((h.1.length : Int) == (((q ++ lab).length : Nat) : Int)) = false := by rw [beq_eq_false_iff_ne]; intro e; exact c1 (show h.1.length = (q ++ lab).length by omega)
    rw [← c2] at b1 b2
    simp only [fd_br, fd_chk', fd_leaf, if_true, isEs_ents, toEs_ents, ents_length, hl, hl2, hne, ne_eq, not_false_eq_true, decide_true, Int.natCast_nonneg, hqn, Int.toNat_natCast, a1, h0, h00, ee_ok, ee_p, hcl, hch, c1', Bool.false_eq_true, if_false, b1, b2, htk]
    subst c; rfl
  · have c2 := a5 c
    obtain ⟨rfl, rfl⟩ : h = (q ++ lab, rs) ∧ r = pre' (q ++ lab) (entL ks) := by simpa using c2
    have c1' : ((((q ++ lab, rs) : Ent).1.length : Int) == (((q ++ lab).length : Nat) : Int)) = true := by simp
    have hle : ∀ n : Nat, decide (n ≤ n) = true := fun n => by simp
    have hrl : (pre' (q ++ lab) (entL ks)).length < 4294967295 := by rw [List.length_cons] at hl; omega
    have htl : List.take (((q ++ lab, rs) : Ent) :: pre' (q ++ lab) (entL ks)).length (ents (((q ++ lab, rs) : Ent) :: pre' (q ++ lab) (entL ks))) = ents (((q ++ lab, rs) : Ent) :: pre' (q ++ lab) (entL ks)) := ents_take _ _ rfl
    simp only [fd_br, fd_chk', fd_leaf, if_true, isEs_ents, toEs_ents, ents_length, hl, hl2, hne, ne_eq, not_false_eq_true, decide_true, Int.natCast_nonneg, hqn, Int.toNat_natCast, a1, h0, h00, h01, ee_ok, ee_p, ee_r, hcl, hch, c1', b1, b2, htk, hle, htl, hdr, hrl]
    rfl
theorem s164_of (dd : Nat) (ih : CSpecOk E 132 (s132 dd)) : CSpecOk E 164 (s164 dd) := by
  intro a h cs vals h' he hc
  unfold s164 at he
  split at he <;> simp only [Option.some.injEq, Prod.mk.injEq, reduceCtorEq] at he
  rename_i nl tt xs n
  obtain ⟨rfl, rfl, rfl⟩ := he
  simp only [allT, Bool.and_true, Bool.and_eq_true, decide_eq_true_eq] at hc
  obtain ⟨h1, h2, h3⟩ := hc
  obtain ⟨l, rfl⟩ := ents_ex h1
  rw [ents_length] at h2
  rw [toEs_ents] at h3 ⊢
  obtain ⟨t, ht⟩ := hasN_ex h3
  rw [(theN_eq ht).2]
  exact f164 dd ih nl tt l n t h2 ht
abbrev posE (ks : List Nd) (j : Nat) : Nat := (entL (ks.take j)).length
theorem posE_succ {ks : List Nd} {j : Nat} (h : j < ks.length) : posE ks (j + 1) = posE ks j + (entT ks[j]).length := by
  unfold posE; rw [entL_take h, List.length_append]
theorem posE_le (ks : List Nd) (j : Nat) : posE ks j ≤ (entL ks).length := entL_take_le ks j
theorem entL_parts {ks : List Nd} {j : Nat} (h : j < ks.length) : entL ks = entL (ks.take j) ++ (entT ks[j] ++ entL (ks.drop (j + 1))) := by
  have := congrArg entL (List.take_append_drop (j + 1) ks).symm
  rw [entL_app, entL_take h, List.append_assoc] at this
  exact this
theorem pre'_len (q : Bys) (l : List Ent) : (pre' q l).length = l.length := List.length_map _
theorem entL_at {ks : List Nd} {j k : Nat} (h : j < ks.length) (hk : k < (entT ks[j]).length) (q : Bys) : (pre' q (entL ks))[posE ks j + k]? = some (q ++ (entT ks[j])[k].1, (entT ks[j])[k].2) := by
  rw [pre', List.getElem?_map, entL_parts h, List.getElem?_append_right (Nat.le_add_right _ _), Nat.add_sub_cancel_left, List.getElem?_append_left hk, List.getElem?_eq_getElem hk]
  rfl
theorem byte_eq (a b : UInt8) : (((a.toNat : Nat) : Int) == ((b.toNat : Nat) : Int)) = decide (a = b) := by
  have := byte_ne a b
  rw [bne] at this
  cases h : (((a.toNat : Nat) : Int) == ((b.toNat : Nat) : Int)) <;> rw [h] at this <;> simpa using this
theorem entry_at {ks : List Nd} {n j k : Nat} (hk : kidsOk ks n) (h : j < ks.length) (hl : k < (entT ks[j]).length) (q : Bys) : q.length < (q ++ (entT ks[j])[k].1).length ∧ at0 (q ++ (entT ks[j])[k].1) q.length = at0 ks[j].lab 0 := by
  obtain ⟨s, hs⟩ := entT_pre ks[j] _ (List.getElem_mem hl)
  have hne := (okT_iff.1 (hk.1 _ (List.getElem_mem h))).1
  have hlp := List.length_pos_iff.2 hne
  rw [hs]
  refine ⟨by simp; omega, ?_⟩
  rw [at0_app]
  exact at0_hd (hdB_app hne)
theorem inner132 (dd : Nat) (hct : (ctOf [(164, s164 dd)]).ok E) (nl : OBo) (tt : Bool) {ks : List Nd} {n : Nat} (q : Bys) (hk : kidsOk ks n) (hq : q.length + n ≤ 24) (hd : depL ks < dd + 1) (hl : (entL ks).length < 4294967295) (hkl : ks.length < 4294967295) {j : Nat} (hj : j < ks.length) :
    (p132 dd).ld b132_0 (Tr.ls 0 (s132_0_0 nl tt (ents (pre' q (entL ks))) q.length j (posE ks j) (posE ks j) (encL (ks.take j)))) = some (R.s (s132_0 nl tt (ents (pre' q (entL ks))) q.length ((j + 1 : Nat)) (posE ks (j + 1) : Nat) (encL (ks.take (j + 1))))) := by
  have hlen : (pre' q (entL ks)).length = (entL ks).length := pre'_len _ _
  have hpl := posE_le ks (j + 1)
  have hps := posE_succ hj
  have hT := hk.1 _ (List.getElem_mem hj)
  have hpos := List.length_pos_iff.2 (entT_some _ _ hT)
  -- an entry of this kid
  have at_ : ∀ k, (hk2 : k < (entT ks[j]).length) → ∃ e : Ent, ∃ h : posE ks j + k < (pre' q (entL ks)).length, (pre' q (entL ks))[posE ks j + k] = e ∧ q.length < e.1.length ∧ at0 e.1 q.length = at0 ks[j].lab 0 := fun k hk2 => by
    obtain ⟨h1, h2⟩ := List.getElem?_eq_some_iff.1 (entL_at hj hk2 q)
    exact ⟨_, h1, h2, (entry_at hk hj hk2 q).1, (entry_at hk hj hk2 q).2⟩
  obtain ⟨e0, h0, e0e, e0l, e0b⟩ := at_ 0 hpos
  rw [Nat.add_zero] at h0
  have e0e' : (pre' q (entL ks))[posE ks j] = e0 := by rw [← e0e]; rfl
  refine ld_post (p := p132 dd) hct (by kernel_rfl) rfl (list_post (p := p132 dd) hct (b := b132_0_0) (entT ks[j]).length (fun k (_ : Unit) => s132_0_0 nl tt (ents (pre' q (entL ks))) q.length j (posE ks j) ((posE ks j + k : Nat)) (encL (ks.take j))) (fun _ _ => True) _ ?_ ?_ 0 (Nat.zero_le _) () trivial)
  · intro k _ hk2 _
    refine .inl ⟨(), trivial, ?_⟩
    obtain ⟨e, h1, h2, h3, h4⟩ := at_ k hk2
    rw [t132_0_0]
    simp only [ld_br, ld_chk', ld_leaf, fd_br, fd_chk', fd_leaf, decide_true, decide_eq_true_eq, if_true, Int.toNat_natCast, Int.natCast_nonneg, Int.ofNat_lt, Int.ofNat_le, Bool.false_eq_true, if_false, bne_iff_ne, beq_iff_eq, ne_eq, not_true_eq_false, not_false_eq_true, Bool.not_eq_true', decide_eq_false_iff_not, reduceCtorEq, rows_length, pcs_length, er_ok, er_ok', ep_ok, ep_ok', dr_er, dp_ep, isRows_rows, isPcs_pcs, toRows_rows, toPcs_pcs, rows_take, rows_drop, pcs_take, pcs_drop, rows_append, pcs_append, ints_length, isInts_ints, toInts_ints, ei_i, ei_ok, mk_headD, ints_take, ints_drop, ints_append, ints_snoc, ints_snoc', List.take_length, Nat.zero_add, Nat.le_refl, er_a, er_b, er_k, er_n, er_s, er_v, ep_a, ep_b, ep_hk, ep_hn, ep_hs, ep_wk, ep_wn, ep_ws, ents_length, h1, h0, ents_getD h1, ents_getD h0, e0e', h2, ee_ok, ee_p, h3, e0l, byte_eq, at0_def, h4, e0b, wrap_succ (show posE ks j + k < 9223372036854775807 by omega)]
    rfl
  · intro _ _
    refine ⟨x132_0_0x0 nl tt (ents (pre' q (entL ks))) q.length j (posE ks j) ((posE ks (j + 1) : Nat)) (encL (ks.take j)), by simp, ?_, ?_⟩
    · have hsl : List.drop (posE ks j) (List.take (posE ks (j + 1)) (ents (pre' q (entL ks)))) = ents (pre' q (entT ks[j])) := by
        unfold ents
        rw [← List.map_take, ← List.map_drop]
        congr 1
        unfold pre'
        rw [← List.map_take, ← List.map_drop]
        congr 1
        rw [entL_parts hj, hps, ← List.append_assoc, List.take_left' (by rw [List.length_append]), List.drop_left']
        rfl
      obtain ⟨b1, b2⟩ := theN_eq (d := dd + 1) (l := pre' q (entT ks[j])) (n := (q.length : Nat)) ⟨q, n, hT, hq, by have := depL_mem (List.getElem_mem hj); omega, rfl, rfl⟩
      have hle : (pre' q (entT ks[j])).length < 4294967295 := by rw [pre'_len]; omega
      have hp1 : posE ks j ≤ posE ks (j + 1) := by omega
      have hp2 : posE ks (j + 1) ≤ (pre' q (entL ks)).length := by omega
      have htk : List.take j (encL (ks.take j)) = encL (ks.take j) := List.take_of_length_le (by simp; omega)
      have hsn : encL (ks.take j) ++ [[C.str ks[j].lab, C.sl 5 none false (rows ks[j].rows), C.sl 3 none false (encL ks[j].kids)]] = encL (ks.take (j + 1)) := by
        rw [← Nd.enc_eq, List.take_succ_eq_append_getElem hj, encL_map, encL_map, List.map_append]; rfl
      rw [k132_0_0x0]
      simp only [ld_chk', ld_leaf, if_true, ents_length, Int.natCast_nonneg, Int.toNat_natCast, decide_true, hp1, hp2, hsl, isEs_ents, toEs_ents, hle, b1, b2, htk, hsn, show j + 1 < 4294967296 by omega]
    · rw [t132_0_0, ← hps]
      by_cases hj2 : j + 1 < ks.length
      · have hT2 := hk.1 _ (List.getElem_mem hj2)
        have hpos2 := List.length_pos_iff.2 (entT_some _ _ hT2)
        obtain ⟨h1, h2⟩ := List.getElem?_eq_some_iff.1 (entL_at hj2 hpos2 q)
        rw [Nat.add_zero] at h1
        obtain ⟨n1, n2⟩ := entry_at hk hj2 hpos2 q
        have h2' : (pre' q (entL ks))[posE ks (j + 1)] = (q ++ (entT ks[j + 1])[0].1, (entT ks[j + 1])[0].2) := by rw [← h2]; rfl
        have hlt : hdB ks[j].lab < hdB ks[j + 1].lab := List.pairwise_iff_getElem.1 hk.2 j (j + 1) hj hj2 (by omega)
        have hne : ¬ at0 ks[j + 1].lab 0 = at0 ks[j].lab 0 := at0_ne (by omega)
        simp only [ld_br, ld_chk', ld_leaf, fd_br, fd_chk', fd_leaf, decide_true, decide_eq_true_eq, if_true, Int.toNat_natCast, Int.natCast_nonneg, Int.ofNat_lt, Int.ofNat_le, Bool.false_eq_true, if_false, bne_iff_ne, beq_iff_eq, ne_eq, not_true_eq_false, not_false_eq_true, Bool.not_eq_true', decide_eq_false_iff_not, reduceCtorEq, rows_length, pcs_length, er_ok, er_ok', ep_ok, ep_ok', dr_er, dp_ep, isRows_rows, isPcs_pcs, toRows_rows, toPcs_pcs, rows_take, rows_drop, pcs_take, pcs_drop, rows_append, pcs_append, ints_length, isInts_ints, toInts_ints, ei_i, ei_ok, mk_headD, ints_take, ints_drop, ints_append, ints_snoc, ints_snoc', List.take_length, Nat.zero_add, Nat.le_refl, er_a, er_b, er_k, er_n, er_s, er_v, ep_a, ep_b, ep_hk, ep_hn, ep_hs, ep_wk, ep_wn, ep_ws, ents_length, h1, h0, ents_getD h1, ents_getD h0, e0e', h2', ee_ok, ee_p, n1, e0l, byte_eq, at0_def, n2, e0b, hne]
      · have : posE ks (j + 1) = (entL ks).length := by
          unfold posE; rw [List.take_of_length_le (by omega)]
        have hn : ¬ (((posE ks (j + 1) : Nat) : Int) < ((pre' q (entL ks)).length : Nat)) := by omega
        simp only [ld_br, ld_chk', ld_leaf, fd_br, fd_chk', fd_leaf, decide_true, decide_eq_true_eq, if_true, Int.toNat_natCast, Int.natCast_nonneg, Int.ofNat_lt, Int.ofNat_le, Bool.false_eq_true, if_false, bne_iff_ne, beq_iff_eq, ne_eq, not_true_eq_false, not_false_eq_true, Bool.not_eq_true', decide_eq_false_iff_not, reduceCtorEq, rows_length, pcs_length, er_ok, er_ok', ep_ok, ep_ok', dr_er, dp_ep, isRows_rows, isPcs_pcs, toRows_rows, toPcs_pcs, rows_take, rows_drop, pcs_take, pcs_drop, rows_append, pcs_append, ints_length, isInts_ints, toInts_ints, ei_i, ei_ok, mk_headD, ints_take, ints_drop, ints_append, ints_snoc, ints_snoc', List.take_length, Nat.zero_add, Nat.le_refl, er_a, er_b, er_k, er_n, er_s, er_v, ep_a, ep_b, ep_hk, ep_hn, ep_hs, ep_wk, ep_wn, ep_ws, ents_length, hlen, this, Int.lt_irrefl]
theorem kids_le_ents {ks : List Nd} {n : Nat} (h : kidsOk ks n) : ks.length ≤ (entL ks).length := by
  induction ks with
  | nil => simp
  | cons t r ih =>
    have h1 := List.length_pos_iff.2 (entT_some t n (h.1 t (by simp)))
    have h2 := ih (kidsOk_sub h (List.sublist_cons_self _ _))
    rw [entL, List.length_append, List.length_cons]; omega
theorem f132 (dd : Nat) (ih : CSpecOk E 164 (s164 dd)) (nl : OBo) (tt : Bool) (l : List Ent) (n : Int) (ks : List Nd) (hl : l.length < 4294967295) (ht : IsK (dd + 1) l n ks) :
    call E 132 [.c (.sl 2 nl tt (ents l)), V.i n] [] = some ([.c (.sl 3 none false (encL ks))], []) := by
  have hct : (ctOf [(164, s164 dd)]).ok E := ctOf_cons ih ctOf_nil
  refine call_of (E := E) (sh := sh) (ct := ctOf [(164, s164 dd)]) (na := 2) (m := 0) hct rfl rfl rfl rfl rfl rfl ?_
  show (p132 dd).fd ((p132 dd).ft _ _) = _
  obtain ⟨q, m, h1, h2, h3, rfl, rfl⟩ := ht
  rw [pre'_len] at hl
  have hkl := kids_le_ents h1
  rw [t132]
  refine fd_post (p := p132 dd) hct (by kernel_rfl) rfl (list_post (p := p132 dd) hct (b := b132_0) ks.length (fun j (_ : Unit) => s132_0 nl tt (ents (pre' q (entL ks))) q.length j (posE ks j : Nat) (encL (ks.take j))) (fun _ _ => True) _ ?_ ?_ 0 (Nat.zero_le _) () trivial)
  · intro j _ hj _
    refine .inl ⟨(), trivial, ?_⟩
    have hps := posE_succ hj
    have hpos := List.length_pos_iff.2 (entT_some _ _ (h1.1 _ (List.getElem_mem hj)))
    have hple := posE_le ks (j + 1)
    rw [t132_0, ld_br, if_pos (by rw [ents_length, pre'_len]; exact decide_eq_true (by omega))]
    exact inner132 dd hct nl tt q h1 h2 h3 (by omega) (by omega) hj
  · intro _ _
    have he : posE ks ks.length = (entL ks).length := by unfold posE; rw [List.take_length]
    refine ⟨x132_0x0 nl tt (ents (pre' q (entL ks))) q.length ks.length (posE ks ks.length : Nat) (encL (ks.take ks.length)), by simp, ?_, ?_⟩
    · rw [k132_0x0, fd_leaf, List.take_length, List.take_of_length_le (by simp)]
    · rw [t132_0, he]; simp only [ld_br, ld_chk', ld_leaf, fd_br, fd_chk', fd_leaf, decide_true, decide_eq_true_eq, if_true, Int.toNat_natCast, Int.natCast_nonneg, Int.ofNat_lt, Int.ofNat_le, Bool.false_eq_true, if_false, bne_iff_ne, beq_iff_eq, ne_eq, not_true_eq_false, not_false_eq_true, Bool.not_eq_true', decide_eq_false_iff_not, reduceCtorEq, rows_length, pcs_length, er_ok, er_ok', ep_ok, ep_ok', dr_er, dp_ep, isRows_rows, isPcs_pcs, toRows_rows, toPcs_pcs, rows_take, rows_drop, pcs_take, pcs_drop, rows_append, pcs_append, ints_length, isInts_ints, toInts_ints, ei_i, ei_ok, mk_headD, ints_take, ints_drop, ints_append, ints_snoc, ints_snoc', List.take_length, Nat.zero_add, Nat.le_refl, er_a, er_b, er_k, er_n, er_s, er_v, ep_a, ep_b, ep_hk, ep_hn, ep_hs, ep_wk, ep_wn, ep_ws, ents_length, pre'_len, Int.lt_irrefl]
theorem s132_ok : ∀ d, CSpecOk E 132 (s132 d)
  | 0 => by
    intro a h cs vals h' he hc
    unfold s132 at he
    split at he <;> simp only [Option.some.injEq, Prod.mk.injEq, reduceCtorEq] at he
    obtain ⟨rfl, rfl, rfl⟩ := he
    simp only [allT, Bool.and_true, Bool.and_eq_true, decide_eq_true_eq] at hc
    obtain ⟨t, q, m, _, _, h, _⟩ := hasK_ex hc.2.2
    omega
  | d + 1 => by
    intro a h cs vals h' he hc
    unfold s132 at he
    split at he <;> simp only [Option.some.injEq, Prod.mk.injEq, reduceCtorEq] at he
    rename_i nl tt xs n
    obtain ⟨rfl, rfl, rfl⟩ := he
    simp only [allT, Bool.and_true, Bool.and_eq_true, decide_eq_true_eq] at hc
    obtain ⟨h1, h2, h3⟩ := hc
    obtain ⟨l, rfl⟩ := ents_ex h1
    rw [ents_length] at h2
    rw [toEs_ents] at h3 ⊢
    obtain ⟨t, ht⟩ := hasK_ex h3
    rw [(theK_eq ht).2]
    exact f132 d (s164_of d (s132_ok d)) nl tt l n t (by omega) ht
theorem f79 (dd : Nat) (nl : OBo) (tt : Bool) (l : List Ent) (ks : List Nd) (hl : l.length < 4294967295) (ht : IsK dd l 0 ks) : call E 79 [.c (.sl 2 nl tt (ents l))] [] = some ([VT (.node [] [] ks)], []) := by
  refine call_of (E := E) (sh := sh) (ct := ctOf [(132, s132 dd)]) (na := 1) (m := 0) (ctOf_cons (s132_ok dd) ctOf_nil) rfl rfl rfl rfl rfl rfl ?_
  show (p79 dd).fd ((p79 dd).ft _ _) = _
  obtain ⟨b1, b2⟩ := theK_eq ht
  rw [t79]
  simp only [fd_chk', fd_leaf, if_true, isEs_ents, toEs_ents, ents_length, hl, decide_true, b1, b2]
  rfl
noncomputable def s79 (dd : Nat) : CSpec := fun a h => match a, h with
  | [.c (.sl 2 nl tt xs)], [] => some ([isEs xs, decide (xs.length < 4294967295), hasK dd (toEs xs) 0], [VT (.node [] [] (theK dd (toEs xs) 0))], [])
  | _, _ => none
theorem s79_ok (dd : Nat) : CSpecOk E 79 (s79 dd) := by
  intro a h cs vals h' he hc
  unfold s79 at he
  split at he <;> simp only [Option.some.injEq, Prod.mk.injEq, reduceCtorEq] at he
  rename_i nl tt xs
  obtain ⟨rfl, rfl, rfl⟩ := he
  simp only [allT, Bool.and_true, Bool.and_eq_true, decide_eq_true_eq] at hc
  obtain ⟨h1, h2, h3⟩ := hc
  obtain ⟨l, rfl⟩ := ents_ex h1
  rw [ents_length] at h2
  rw [toEs_ents] at h3 ⊢
  obtain ⟨t, ht⟩ := hasK_ex h3
  rw [(theK_eq ht).2]
  exact f79 dd nl tt l t (by omega) ht
end Go.Proofs.YtgaabjmbnomimaaDoor
namespace Go.Proofs.YtgaabjmbnomimaaDoor
open Go Go.Ev
-- cse
noncomputable abbrev p23 : Par := par E sh (ctOf []) 23 1 0
abbrev s23_0 (nl : OBo) (tt : Bool) (xs : LLC) (i3 : Int) : Fr × Hp := ([(0, V.c (C.sl 5 nl tt xs)), (3, V.c (C.int IntKind.i64 i3))], [])
noncomputable abbrev b23_0 : Code := loopAt (codeOf E (23)) 0
abbrev x23_0x0 : Ex × Fr × Hp := (Ex.ret, [(2, V.c (C.bool false))], [])
abbrev x23_0x1 (nl : OBo) (tt : Bool) (xs : LLC) (i3 : Int) : Ex × Fr × Hp := (Ex.exit 0, [(0, V.c (C.sl 5 nl tt xs)), (3, V.c (C.int IntKind.i64 i3)), (10, V.c (C.bool false))], [])
theorem t23_0 (nl : OBo) (tt : Bool) (xs : LLC) (i3 : Int) : p23.lts b23_0 (s23_0 nl tt xs i3) = (Tr.br (decide (i3 < (↑xs.length : Int))) (Tr.chk (decide (0 ≤ i3)) (Tr.chk true (Tr.chk (decide (i3.toNat < xs.length)) (Tr.chk (shOk [Sk.int IntKind.i64, Sk.int IntKind.i64, Sk.int IntKind.i64, Sk.int IntKind.i64, Sk.str] (xs.getD i3.toNat [])) (Tr.br (decide (100 < (↑((xs.getD i3.toNat []).tail.tail.tail.tail.headD C.pnil).st.length : Int))) (Tr.leaf (R.x x23_0x0)) (Tr.leaf (R.s (s23_0 nl tt xs (IntKind.i64.wrap (i3 + 1)))))))))) (Tr.leaf (R.x (x23_0x1 nl tt xs i3)))) := by kernel_rfl
theorem k23_0x0 : p23.fkx 0 x23_0x0 = (Tr.leaf (R.out [V.c (C.bool false)] [])) := by kernel_rfl
theorem k23_0x1 (nl : OBo) (tt : Bool) (xs : LLC) (i3 : Int) : p23.fkx 0 (x23_0x1 nl tt xs i3) = (Tr.leaf (R.out [V.c (C.bool true)] [])) := by kernel_rfl
theorem t23 (nl : OBo) (tt : Bool) (xs : LLC) : p23.ft ([V.c (C.sl 5 nl tt xs)]) ([]) = (Tr.br (decide (70 < (↑xs.length : Int))) (Tr.leaf (R.out [V.c (C.bool false)] [])) (Tr.ls 0 (s23_0 nl tt xs (0)))) := by kernel_rfl
def s23 : CSpec := fun a h => match a, h with
  | [.c (.sl 5 nl tt xs)], [] => some ([isRows xs], [V.b (shortR (toRows xs))], [])
  | _, _ => none
variable (dd : Nat)
def s61 : CSpec := fun a h => match a, h with
  | [.agg [.c (.str s), .c (.sl 5 rn rt xs), .c (.sl 3 kn kt ys)], .c (.int .i64 n), .c (.int .i64 d)], [] => some ([isRows xs, isL ys, decide (depL (decL ys) < dd), decide (0 ≤ n), decide (n ≤ 1000), decide (-1000 ≤ d), decide (d ≤ 1000), lensT (.node s (toRows xs) (decL ys))], [V.i (leftT (.node s (toRows xs) (decL ys)) n d)], [])
  | _, _ => none
noncomputable abbrev p61 : Par := par E sh (ctOf [(23, s23), (61, s61 dd)]) 61 3 0
abbrev s61_0 (s : Bys) (rn : OBo) (rt : Bool) (xs : LLC) (kn : OBo) (kt : Bool) (ys : LLC) (d : Int) (i1 : Int) (i7 : Int) : Fr × Hp := ([(1, V.c (C.int IntKind.i64 i1)), (2, V.c (C.int IntKind.i64 d)), (3, V.ptr 0 0 0 0), (7, V.c (C.int IntKind.i64 i7))], [O.box [V.c (C.str s), V.c (C.sl 5 rn rt xs), V.c (C.sl 3 kn kt ys)]])
noncomputable abbrev b61_0 : Code := loopAt (codeOf E (61)) 0
abbrev x61_0x0 (s : Bys) (rn : OBo) (rt : Bool) (xs : LLC) (kn : OBo) (kt : Bool) (ys : LLC) (d : Int) (i1 : Int) (i7 : Int) : Ex × Fr × Hp := (Ex.exit 0, [(1, V.c (C.int IntKind.i64 i1)), (2, V.c (C.int IntKind.i64 d)), (3, V.ptr 0 0 0 0), (7, V.c (C.int IntKind.i64 i7)), (35, V.c (C.bool false))], [O.box [V.c (C.str s), V.c (C.sl 5 rn rt xs), V.c (C.sl 3 kn kt ys)]])
theorem t61_0 (s : Bys) (rn : OBo) (rt : Bool) (xs : LLC) (kn : OBo) (kt : Bool) (ys : LLC) (d : Int) (i1 : Int) (i7 : Int) : (p61 dd).lts b61_0 (s61_0 s rn rt xs kn kt ys d i1 i7) = (Tr.br (decide (i7 < (↑ys.length : Int))) (Tr.br (decide (0 < i1)) (Tr.chk (decide (0 ≤ i7)) (Tr.chk true (Tr.chk (decide (i7.toNat < ys.length)) (Tr.chk (shOk [Sk.str, Sk.sl 5, Sk.sl 3] (ys.getD i7.toNat [])) (Tr.chk (isRows ((ys.getD i7.toNat []).tail.headD C.pnil).xs) (Tr.chk (isL ((ys.getD i7.toNat []).tail.tail.headD C.pnil).xs) (Tr.chk (decide (depL (decL ((ys.getD i7.toNat []).tail.tail.headD C.pnil).xs) < dd)) (Tr.chk (decide (0 ≤ i1)) (Tr.chk (decide (i1 ≤ 1000)) (Tr.chk (decide (-1000 ≤ IntKind.i64.wrap (d - 1))) (Tr.chk (decide (IntKind.i64.wrap (d - 1) ≤ 1000)) (Tr.chk (lensT (Nd.node ((ys.getD i7.toNat []).headD C.pnil).st (toRows ((ys.getD i7.toNat []).tail.headD C.pnil).xs) (decL ((ys.getD i7.toNat []).tail.tail.headD C.pnil).xs))) (Tr.leaf (R.s (s61_0 s rn rt xs kn kt ys d (leftT (Nd.node ((ys.getD i7.toNat []).headD C.pnil).st (toRows ((ys.getD i7.toNat []).tail.headD C.pnil).xs) (decL ((ys.getD i7.toNat []).tail.tail.headD C.pnil).xs)) i1 (IntKind.i64.wrap (d - 1))) (IntKind.i64.wrap (i7 + 1))))))))))))))))) (Tr.leaf (R.x (x61_0x0 s rn rt xs kn kt ys d i1 i7)))) (Tr.leaf (R.x (x61_0x0 s rn rt xs kn kt ys d i1 i7)))) := by kernel_rfl
theorem k61_0x0 (dd : Nat) (s : Bys) (rn : OBo) (rt : Bool) (xs : LLC) (kn : OBo) (kt : Bool) (ys : LLC) (d : Int) (i1 : Int) (i7 : Int) : (p61 dd).fkx 0 (x61_0x0 s rn rt xs kn kt ys d i1 i7) = (Tr.leaf (R.out [V.c (C.int IntKind.i64 i1)] [])) := by kernel_rfl
theorem t61 (s : Bys) (rn : OBo) (rt : Bool) (xs : LLC) (kn : OBo) (kt : Bool) (ys : LLC) (n : Int) (d : Int) : (p61 dd).ft ([V.agg [V.c (C.str s), V.c (C.sl 5 rn rt xs), V.c (C.sl 3 kn kt ys)], V.i n, V.i d]) ([]) = (Tr.chk true (Tr.br (decide (d < 1)) (Tr.leaf (R.out [V.c (C.int IntKind.i64 0)] [])) (Tr.br (decide (IntKind.i64.wrap (IntKind.i64.wrap (n - 1) - IntKind.i64.wrap ((↑s.length : Int).tdiv 50)) < 1)) (Tr.leaf (R.out [V.c (C.int IntKind.i64 0)] [])) (Tr.chk (isRows xs) (Tr.br (!shortR (toRows xs)) (Tr.leaf (R.out [V.c (C.int IntKind.i64 0)] [])) (Tr.ls 0 (s61_0 s rn rt xs kn kt ys d (IntKind.i64.wrap (IntKind.i64.wrap (n - 1) - IntKind.i64.wrap ((↑s.length : Int).tdiv 50))) (0)))))))) := by kernel_rfl
noncomputable abbrev p22 : Par := par E sh (ctOf [(61, s61 dd)]) 22 1 0
theorem t22 (s : Bys) (rn : OBo) (rt : Bool) (xs : LLC) (kn : OBo) (kt : Bool) (ys : LLC) : (p22 dd).ft ([V.agg [V.c (C.str s), V.c (C.sl 5 rn rt xs), V.c (C.sl 3 kn kt ys)]]) ([]) = (Tr.chk (isRows xs) (Tr.chk (isL ys) (Tr.chk (decide (depL (decL ys) < dd)) (Tr.chk true (Tr.chk true (Tr.chk true (Tr.chk true (Tr.chk (lensT (Nd.node s (toRows xs) (decL ys))) (Tr.leaf (R.out [V.c (C.bool (decide (0 < leftT (Nd.node s (toRows xs) (decL ys)) 400 60)))] [])))))))))) := by kernel_rfl
def smallR (n : Int) (t : Nd) : Bool := decide (0 < leftT t n 60)
def s22 : CSpec := fun a h => match a, h with
  | [.agg [.c (.str s), .c (.sl 5 rn rt xs), .c (.sl 3 kn kt ys)]], [] => some ([isRows xs, isL ys, lensT (.node s (toRows xs) (decL ys))], [V.b (smallR 400 (.node s (toRows xs) (decL ys)))], [])
  | _, _ => none
def s24 : CSpec := fun a h => match a, h with
  | [], [] => some ([], [V.b true], [])
  | _, _ => none
end Go.Proofs.YtgaabjmbnomimaaDoor
namespace Go.Proofs.YtgaabjmbnomimaaDoor
open Go Go.Ev
theorem f23 (l : List Row) (nl : OBo) (tt : Bool) : call E 23 [.c (.sl 5 nl tt (rows l))] [] = some ([V.b (shortR l)], []) := by
  have hct : (ctOf []).ok E := ctOf_nil
  refine call_of (E := E) (sh := sh) (ct := ctOf []) (na := 1) (m := 0) hct rfl rfl rfl rfl rfl rfl ?_
  rw [t23, rows_length, fd_br]
  unfold shortR
  by_cases c0 : (70 : Int) < l.length
  · rw [if_pos (by simpa using c0), fd_leaf]
    have : ¬ l.length ≤ 70 := by omega
    simp [this]
  rw [if_neg (by simpa using c0)]
  have c0' : l.length ≤ 70 := by omega
  simp only [c0', decide_true, Bool.true_and]
  refine fd_post hct (by kernel_rfl) rfl (list_post (p := p23) hct (b := b23_0) l.length (fun k (_ : Unit) => s23_0 nl tt (rows l) k) (fun k _ => ((l.drop k).all fun r => decide (r.v.s.length ≤ 100)) = (l.all fun r => decide (r.v.s.length ≤ 100))) _ ?_ ?_ 0 (Nat.zero_le _) () rfl)
  · rintro k _ hk hi
    rw [List.drop_eq_getElem_cons hk, List.all_cons] at hi
    rw [t23_0]
    simp only [ld_br, ld_chk', ld_leaf, fd_br, fd_chk', fd_leaf, decide_true, decide_eq_true_eq, if_true, Int.toNat_natCast, Int.natCast_nonneg, Int.ofNat_lt, Int.ofNat_le, Bool.false_eq_true, if_false, bne_iff_ne, beq_iff_eq, ne_eq, not_true_eq_false, not_false_eq_true, Bool.not_eq_true', decide_eq_false_iff_not, reduceCtorEq, rows_length, pcs_length, er_ok, er_ok', ep_ok, ep_ok', dr_er, dp_ep, isRows_rows, isPcs_pcs, toRows_rows, toPcs_pcs, rows_take, rows_drop, pcs_take, pcs_drop, rows_append, pcs_append, ints_length, isInts_ints, toInts_ints, ei_i, ei_ok, mk_headD, ints_take, ints_drop, ints_append, ints_snoc, ints_snoc', List.take_length, Nat.zero_add, Nat.le_refl, er_a, er_b, er_k, er_n, er_s, er_v, ep_a, ep_b, ep_hk, ep_hn, ep_hs, ep_wk, ep_wn, ep_ws, hk, rows_getD hk, wrap_succ (show k < 9223372036854775807 by omega)]
    by_cases c : (100 : Int) < l[k].v.s.length
    · have : ¬ l[k].v.s.length ≤ 100 := by omega
      simp only [this, decide_false, Bool.false_and] at hi
      exact .inr ⟨x23_0x0, by simp, by rw [k23_0x0, fd_leaf, ← hi], by rw [if_pos c]⟩
    · have : l[k].v.s.length ≤ 100 := by omega
      simp only [this, decide_true, Bool.true_and] at hi
      exact .inl ⟨(), hi, by rw [if_neg c]⟩
  · rintro _ hi
    rw [List.drop_length, List.all_nil] at hi
    rw [t23_0]
    exact ⟨x23_0x1 nl tt (rows l) l.length, by simp, by rw [k23_0x1, fd_leaf, ← hi], by simp only [ld_br, ld_chk', ld_leaf, fd_br, fd_chk', fd_leaf, decide_true, decide_eq_true_eq, if_true, Int.toNat_natCast, Int.natCast_nonneg, Int.ofNat_lt, Int.ofNat_le, Bool.false_eq_true, if_false, bne_iff_ne, beq_iff_eq, ne_eq, not_true_eq_false, not_false_eq_true, Bool.not_eq_true', decide_eq_false_iff_not, reduceCtorEq, rows_length, pcs_length, er_ok, er_ok', ep_ok, ep_ok', dr_er, dp_ep, isRows_rows, isPcs_pcs, toRows_rows, toPcs_pcs, rows_take, rows_drop, pcs_take, pcs_drop, rows_append, pcs_append, ints_length, isInts_ints, toInts_ints, ei_i, ei_ok, mk_headD, ints_take, ints_drop, ints_append, ints_snoc, ints_snoc', List.take_length, Nat.zero_add, Nat.le_refl, er_a, er_b, er_k, er_n, er_s, er_v, ep_a, ep_b, ep_hk, ep_hn, ep_hs, ep_wk, ep_wn, ep_ws, Int.lt_irrefl]⟩
theorem s23_ok : CSpecOk E 23 s23 := by
  intro a h cs vals h' he hc
  unfold s23 at he
  split at he <;> simp only [Option.some.injEq, Prod.mk.injEq, reduceCtorEq] at he
  rename_i nl tt xs
  obtain ⟨rfl, rfl, rfl⟩ := he
  simp only [allT, Bool.and_true, Bool.and_eq_true, decide_eq_true_eq] at hc
  obtain ⟨l, rfl⟩ := rows_ex hc
  rw [toRows_rows]
  exact f23 l nl tt
theorem f61 (dd : Nat) (ih : CSpecOk E 61 (s61 dd)) (s : Bys) (rn : OBo) (rt : Bool) (rs : List Row) (kn : OBo) (kt : Bool) (ks : List Nd) (n d : Int) (hd : depL ks < dd + 1) (h0 : 0 ≤ n) (h1 : n ≤ 1000) (h2 : -1000 ≤ d) (h3 : d ≤ 1000) (hl : lensT (.node s rs ks) = true) :
    call E 61 [.agg [.c (.str s), .c (.sl 5 rn rt (rows rs)), .c (.sl 3 kn kt (encL ks))], V.i n, V.i d] [] = some ([V.i (leftT (.node s rs ks) n d)], []) := by
  have hct : (ctOf [(23, s23), (61, s61 dd)]).ok E := ctOf_cons s23_ok (ctOf_cons ih ctOf_nil)
  refine call_of (E := E) (sh := sh) (ct := ctOf [(23, s23), (61, s61 dd)]) (na := 3) (m := 0) hct rfl rfl rfl rfl rfl rfl ?_
  show (p61 dd).fd ((p61 dd).ft _ _) = _
  rw [lensT] at hl
  simp only [Bool.and_eq_true, decide_eq_true_eq] at hl
  obtain ⟨⟨⟨l1, l2⟩, l4⟩, l3⟩ := hl
  have w0 : ((s.length : Int).tdiv 50) = ((s.length / 50 : Nat) : Int) := rfl
  have w1 : IntKind.wrap .i64 (IntKind.wrap .i64 (n - 1) - IntKind.wrap .i64 ((s.length : Int).tdiv 50)) = n - 1 - ((s.length / 50 : Nat) : Int) := by
    rw [w0, wrap_same (n := n - 1) (by omega) (by omega), wrap_same (n := ((s.length / 50 : Nat) : Int)) (by omega) (by omega), wrap_same (by omega) (by omega)]
  rw [t61, w1]
  simp only [nd_ok, nd_lab, nd_rows, nd_kids, encL_length, isL_enc, decL_enc, wrap_hd, hd_pos, ld_br, ld_chk', ld_leaf, fd_br, fd_chk', fd_leaf, decide_true, decide_eq_true_eq, if_true, Int.toNat_natCast, Int.natCast_nonneg, Int.ofNat_lt, Int.ofNat_le, Bool.false_eq_true, if_false, bne_iff_ne, beq_iff_eq, ne_eq, not_true_eq_false, not_false_eq_true, Bool.not_eq_true', decide_eq_false_iff_not, reduceCtorEq, rows_length, pcs_length, er_ok, er_ok', ep_ok, ep_ok', dr_er, dp_ep, isRows_rows, isPcs_pcs, toRows_rows, toPcs_pcs, rows_take, rows_drop, pcs_take, pcs_drop, rows_append, pcs_append, ints_length, isInts_ints, toInts_ints, ei_i, ei_ok, mk_headD, ints_take, ints_drop, ints_append, ints_snoc, ints_snoc', List.take_length, Nat.zero_add, Nat.le_refl, er_a, er_b, er_k, er_n, er_s, er_v, ep_a, ep_b, ep_hk, ep_hn, ep_hs, ep_wk, ep_wn, ep_ws]
  rw [leftT]
  have hm : n - 1 - ((s.length / 50 : Nat) : Int) ≤ 1000 := by omega
  generalize n - 1 - ((s.length / 50 : Nat) : Int) = m at *
  by_cases c1 : d < 1
  · simp [c1]
  rw [if_neg c1]
  by_cases c2 : m < 1
  · simp [c2]
  rw [if_neg c2]
  by_cases c3 : shortR rs = false
  · simp [c3]
  rw [if_neg c3, if_neg (show ¬ (d < 1 ∨ m < 1 ∨ shortR rs = false) from fun h => h.elim c1 fun h => h.elim c2 c3)]
  have hm0 : 0 ≤ m := by omega
  have w2 : IntKind.wrap .i64 (d - 1) = d - 1 := wrap_same (by omega) (by omega)
  refine fd_post hct (by kernel_rfl) rfl (list_post (p := p61 dd) hct (b := b61_0) ks.length (fun k (m : Int) => s61_0 s rn rt (rows rs) kn kt (encL ks) d m k) (fun k m' => leftL (ks.drop k) m' (d - 1) = leftL ks m (d - 1) ∧ 0 ≤ m' ∧ m' ≤ 1000) _ ?_ ?_ 0 (Nat.zero_le _) m ⟨rfl, hm0, hm⟩)
  · rintro k m' hk ⟨hi, hm1, hm2⟩
    rw [List.drop_eq_getElem_cons hk, leftL_cons] at hi
    have hkid : depL ks[k].kids < dd := by have := depL_kid (List.getElem_mem hk); omega
    rw [t61_0]
    by_cases c : 0 < m'
    · rw [if_pos c] at hi
      have hb := leftT_le ks[k] m' (d - 1) hm1
      refine .inl ⟨leftT ks[k] m' (d - 1), ⟨hi, hb.1, by omega⟩, ?_⟩
      simp only [nd_ok, nd_lab, nd_rows, nd_kids, encL_length, isL_enc, decL_enc, wrap_hd, hd_pos, ld_br, ld_chk', ld_leaf, fd_br, fd_chk', fd_leaf, decide_true, decide_eq_true_eq, if_true, Int.toNat_natCast, Int.natCast_nonneg, Int.ofNat_lt, Int.ofNat_le, Bool.false_eq_true, if_false, bne_iff_ne, beq_iff_eq, ne_eq, not_true_eq_false, not_false_eq_true, Bool.not_eq_true', decide_eq_false_iff_not, reduceCtorEq, rows_length, pcs_length, er_ok, er_ok', ep_ok, ep_ok', dr_er, dp_ep, isRows_rows, isPcs_pcs, toRows_rows, toPcs_pcs, rows_take, rows_drop, pcs_take, pcs_drop, rows_append, pcs_append, ints_length, isInts_ints, toInts_ints, ei_i, ei_ok, mk_headD, ints_take, ints_drop, ints_append, ints_snoc, ints_snoc', List.take_length, Nat.zero_add, Nat.le_refl, er_a, er_b, er_k, er_n, er_s, er_v, ep_a, ep_b, ep_hk, ep_hn, ep_hs, ep_wk, ep_wn, ep_ws, hk, encL_getD hk, nd_node, hkid, w2, hm1, hm2, c, show -1000 ≤ d - 1 by omega, show d - 1 ≤ 1000 by omega, lensL_mem l3 (List.getElem_mem hk), wrap_succ (show k < 9223372036854775807 by omega)]
    · rw [if_neg c] at hi
      exact .inr ⟨x61_0x0 s rn rt (rows rs) kn kt (encL ks) d m' k, by simp, by rw [k61_0x0, fd_leaf, ← hi], by simp only [nd_ok, nd_lab, nd_rows, nd_kids, encL_length, isL_enc, decL_enc, wrap_hd, hd_pos, ld_br, ld_chk', ld_leaf, fd_br, fd_chk', fd_leaf, decide_true, decide_eq_true_eq, if_true, Int.toNat_natCast, Int.natCast_nonneg, Int.ofNat_lt, Int.ofNat_le, Bool.false_eq_true, if_false, bne_iff_ne, beq_iff_eq, ne_eq, not_true_eq_false, not_false_eq_true, Bool.not_eq_true', decide_eq_false_iff_not, reduceCtorEq, rows_length, pcs_length, er_ok, er_ok', ep_ok, ep_ok', dr_er, dp_ep, isRows_rows, isPcs_pcs, toRows_rows, toPcs_pcs, rows_take, rows_drop, pcs_take, pcs_drop, rows_append, pcs_append, ints_length, isInts_ints, toInts_ints, ei_i, ei_ok, mk_headD, ints_take, ints_drop, ints_append, ints_snoc, ints_snoc', List.take_length, Nat.zero_add, Nat.le_refl, er_a, er_b, er_k, er_n, er_s, er_v, ep_a, ep_b, ep_hk, ep_hn, ep_hs, ep_wk, ep_wn, ep_ws, hk, c]⟩
  · rintro m' ⟨hi, hm1, hm2⟩
    rw [List.drop_length, leftL] at hi
    rw [t61_0]
    exact ⟨x61_0x0 s rn rt (rows rs) kn kt (encL ks) d m' ks.length, by simp, by rw [k61_0x0, fd_leaf, ← hi], by simp only [nd_ok, nd_lab, nd_rows, nd_kids, encL_length, isL_enc, decL_enc, wrap_hd, hd_pos, ld_br, ld_chk', ld_leaf, fd_br, fd_chk', fd_leaf, decide_true, decide_eq_true_eq, if_true, Int.toNat_natCast, Int.natCast_nonneg, Int.ofNat_lt, Int.ofNat_le, Bool.false_eq_true, if_false, bne_iff_ne, beq_iff_eq, ne_eq, not_true_eq_false, not_false_eq_true, Bool.not_eq_true', decide_eq_false_iff_not, reduceCtorEq, rows_length, pcs_length, er_ok, er_ok', ep_ok, ep_ok', dr_er, dp_ep, isRows_rows, isPcs_pcs, toRows_rows, toPcs_pcs, rows_take, rows_drop, pcs_take, pcs_drop, rows_append, pcs_append, ints_length, isInts_ints, toInts_ints, ei_i, ei_ok, mk_headD, ints_take, ints_drop, ints_append, ints_snoc, ints_snoc', List.take_length, Nat.zero_add, Nat.le_refl, er_a, er_b, er_k, er_n, er_s, er_v, ep_a, ep_b, ep_hk, ep_hn, ep_hs, ep_wk, ep_wn, ep_ws, Int.lt_irrefl]⟩
theorem s61_ok : ∀ d, CSpecOk E 61 (s61 d)
  | 0 => by
    intro a h cs vals h' he hc
    unfold s61 at he
    split at he <;> simp only [Option.some.injEq, Prod.mk.injEq, reduceCtorEq] at he
    obtain ⟨rfl, rfl, rfl⟩ := he
    simp [allT] at hc
  | d + 1 => by
    intro a h cs vals h' he hc
    unfold s61 at he
    split at he <;> simp only [Option.some.injEq, Prod.mk.injEq, reduceCtorEq] at he
    rename_i s rn rt xs kn kt ys n k
    obtain ⟨rfl, rfl, rfl⟩ := he
    simp only [allT, Bool.and_true, Bool.and_eq_true, decide_eq_true_eq] at hc
    obtain ⟨h1, h2, h3, h4, h5, h6, h7, h8⟩ := hc
    obtain ⟨rs, rfl⟩ := rows_ex h1
    obtain ⟨ks, rfl⟩ := isL_ex h2
    simp only [toRows_rows, decL_enc] at *
    exact f61 d (s61_ok d) s rn rt rs kn kt ks n k h3 h4 h5 h6 h7 h8
theorem f22 (t : Nd) (rn : OBo) (rt : Bool) (kn : OBo) (kt : Bool) (hl : lensT t = true) :
    call E 22 [.agg [.c (.str t.lab), .c (.sl 5 rn rt (rows t.rows)), .c (.sl 3 kn kt (encL t.kids))]] [] = some ([V.b (smallR 400 t)], []) := by
  have hct : (ctOf [(61, s61 (depL t.kids + 1))]).ok E := ctOf_cons (s61_ok _) ctOf_nil
  refine call_of (E := E) (sh := sh) (ct := ctOf [(61, s61 (depL t.kids + 1))]) (na := 1) (m := 0) hct rfl rfl rfl rfl rfl rfl ?_
  show (p22 (depL t.kids + 1)).fd ((p22 (depL t.kids + 1)).ft _ _) = _
  rw [t22]
  simp only [nd_ok, nd_lab, nd_rows, nd_kids, encL_length, isL_enc, decL_enc, wrap_hd, hd_pos, ld_br, ld_chk', ld_leaf, fd_br, fd_chk', fd_leaf, decide_true, decide_eq_true_eq, if_true, Int.toNat_natCast, Int.natCast_nonneg, Int.ofNat_lt, Int.ofNat_le, Bool.false_eq_true, if_false, bne_iff_ne, beq_iff_eq, ne_eq, not_true_eq_false, not_false_eq_true, Bool.not_eq_true', decide_eq_false_iff_not, reduceCtorEq, rows_length, pcs_length, er_ok, er_ok', ep_ok, ep_ok', dr_er, dp_ep, isRows_rows, isPcs_pcs, toRows_rows, toPcs_pcs, rows_take, rows_drop, pcs_take, pcs_drop, rows_append, pcs_append, ints_length, isInts_ints, toInts_ints, ei_i, ei_ok, mk_headD, ints_take, ints_drop, ints_append, ints_snoc, ints_snoc', List.take_length, Nat.zero_add, Nat.le_refl, er_a, er_b, er_k, er_n, er_s, er_v, ep_a, ep_b, ep_hk, ep_hn, ep_hs, ep_wk, ep_wn, ep_ws, nd_node, show depL t.kids < depL t.kids + 1 by omega, hl, smallR]
theorem s22_ok : CSpecOk E 22 s22 := by
  intro a h cs vals h' he hc
  unfold s22 at he
  split at he <;> simp only [Option.some.injEq, Prod.mk.injEq, reduceCtorEq] at he
  rename_i s rn rt xs kn kt ys
  obtain ⟨rfl, rfl, rfl⟩ := he
  simp only [allT, Bool.and_true, Bool.and_eq_true, decide_eq_true_eq] at hc
  obtain ⟨h1, h2, h3⟩ := hc
  obtain ⟨rs, rfl⟩ := rows_ex h1
  obtain ⟨ks, rfl⟩ := isL_ex h2
  simp only [toRows_rows, decL_enc] at *
  exact f22 (.node s rs ks) rn rt kn kt h3
set_option maxRecDepth 100000 in
theorem f24 : call E 24 [] [] = some ([V.b true], []) := call_iff.2 ⟨200, by kernel_rfl⟩
theorem s24_ok : CSpecOk E 24 s24 := by
  intro a h cs vals h' he hc
  unfold s24 at he
  split at he <;> simp only [Option.some.injEq, Prod.mk.injEq, reduceCtorEq] at he
  obtain ⟨rfl, rfl, rfl⟩ := he
  exact f24
end Go.Proofs.YtgaabjmbnomimaaDoor
