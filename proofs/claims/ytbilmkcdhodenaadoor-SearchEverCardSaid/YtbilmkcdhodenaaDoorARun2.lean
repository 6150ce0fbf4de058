import Derived.Test.YtbilmkcdhodenaaDoorProg
import Derived.Test.YtbilmkcdhodenaaDoorAShelf
import Derived.Test.YtbilmkcdhodenaaDoorARunD
import Derived.Tactics
import Derived.Tactics2
import Derived.Defers
import Derived.Recover
import Derived.Laws.Pointers
import Derived.Laws.RangeString
import Derived.WalkKit
import Derived.WalkSmall
import Derived.LoopTactic
import Derived.Lib.OthersKept
import Derived.WalkSpells
import Derived.Deep.LoopGhost
import Derived.BigQuiet
import Derived.Deep.QuietTactic
import Derived.Lib.TrimUEq
import Derived.Lib.ByteType
import Derived.RangeFuncRecord
import Derived.Shelf.Unicode.DecodeAny
set_option linter.all false
set_option linter.unusedSimpArgs false
set_option linter.unusedVariables false
namespace Go.Proofs.YtbilmkcdhodenaaDoor
open Go Go.RowKit

theorem inc_walk (b : Nat) (v : Int) (x y : Value) (w : World) (hb : w.heap[b]? = some (.cells #[.int .i64 v] 3 (0, 0))) :
    Calls Tryd.prog 206 #[x, y, .pointer (some ⟨b, 0, none⟩)] w fun e w' => e = .returned (.tuple #[]) ∧ w' = w.setCell ⟨b, 0, none⟩ (.int .i64 (wrap64 (v + 1))) := by
  have h1 : w.cell? ⟨b, 0, none⟩ = some (.int .i64 v) := by simp [World.cell?, hb]
  have h2 : w.frozen? ⟨b, 0, none⟩ = false := by simp [World.frozen?, hb]
  go_enter Tryd.func206, Tryd.ntmps206
  go_wp2
  go_end0

  exact ⟨rfl, rfl⟩

/-- The box b holds v; nothing else has turned. -/
structure Nx (w w' : World) (b : Nat) (v : Int) : Prop where
  os : w'.os = w.os
  tape : w'.tape = w.tape
  output : w'.output = w.output
  size : w.heap.size ≤ w'.heap.size
  keep : ∀ c, c < w.heap.size → c ≠ b → w'.heap[c]? = w.heap[c]?
  box : w'.heap[b]? = some (.cells #[.int .i64 v] 3 (0, 0))
theorem Nx.below {w w1 w2 : World} {b : Nat} {v : Int} (h : Nx w w1 b v) (hb : b < w.heap.size) (k : Below w1.heap.size w1 w2) : Nx w w2 b v :=
  ⟨k.os.trans h.os, k.tape.trans h.tape, k.output.trans h.output, Nat.le_trans h.size k.size, fun c hc hne => (k.block c (Nat.lt_of_lt_of_le hc h.size)).trans (h.keep c hc hne), (k.block b (Nat.lt_of_lt_of_le hb h.size)).trans h.box⟩

theorem setCell_box {w : World} {b : Nat} {x : Value} {t : TypeId} (h : w.heap[b]? = some (.cells #[x] t (0, 0))) (y : Value) : (w.setCell ⟨b, 0, none⟩ y).heap[b]? = some (.cells #[y] t (0, 0)) ∧ (∀ c, c ≠ b → (w.setCell ⟨b, 0, none⟩ y).heap[c]? = w.heap[c]?) ∧ (w.setCell ⟨b, 0, none⟩ y).heap.size = w.heap.size := by
  have hlt : b < w.heap.size := (Array.getElem?_eq_some_iff.1 h).1
  refine ⟨?_, fun c hc => ?_, ?_⟩
  · simp [World.setCell, Array.getElem?_modify, h]
  · simp [World.setCell, Array.getElem?_modify, Ne.symm hc]
  · simp [World.setCell]

theorem Nx.set {w w1 : World} {b : Nat} {v : Int} (h : Nx w w1 b v) (u : Int) : Nx w (w1.setCell ⟨b, 0, none⟩ (.int .i64 u)) b u := by
  obtain ⟨h1, h2, h3⟩ := setCell_box h.box (.int .i64 u)
  exact ⟨h.os, h.tape, h.output, by rw [h3]; exact h.size, fun c hc hne => (h2 c hne).trans (h.keep c hc hne), h1⟩
theorem each_walk (s : ByteArray) (w : World) (b : Nat) (v : Int) (hb : w.heap[b]? = some (.cells #[.int .i64 v] 3 (0, 0))) (h2 : 3 ≤ b) (hv : 0 ≤ v) (hvs : v + s.size < 9223372036854775808) (hT : Lib.Utf8Tabs 1 2 w) (R : Option Nat) (hR : runesN s s.size 0 = R) :
    Calls Tryd.prog 210 #[.string s, .func (.func 206) #[] #[.pointer (some ⟨b, 0, none⟩)]] w fun e w' => ∃ v', Nx w w' b v' ∧ match R with
      | some n => e = .returned (.tuple #[]) ∧ v' = v + n
      | none => ∃ x, e = .panicked [{ v := .iface 239 x, recovered := false }] := by
  have hbl : b < w.heap.size := (Array.getElem?_eq_some_iff.1 hb).1
  have hnx0 : Nx w w b v := ⟨rfl, rfl, rfl, Nat.le_refl _, fun _ _ _ => rfl, hb⟩
  go_enter Tryd.func210, Tryd.ntmps210
  go_wp2
  go_loopw [] (fun wr => ∃ (pos fuel cnt : Nat), wr.heap[w.heap.size]? = some (.stringIter s pos) ∧ Nx w wr b (v + cnt) ∧ Hid (R = (runesN s fuel pos).map (· + cnt)) ∧ s.size ≤ pos + fuel ∧ cnt ≤ pos ∧ cnt ≤ s.size) (fun wr => s.size - wr.iterPos w.heap.size)
  case atStart =>
    refine ⟨0, s.size, 0, World.iter_heap w s 0, ?_, ?_, by omega, by omega, by omega⟩
    · have := hnx0.below hbl ((Below.refl _ _).alloc (Nat.le_refl _) (.stringIter s 0))
      simpa [World.iter] using this
    · show R = _
      rw [hR]; cases R <;> simp
  case round =>
    obtain ⟨pos, fuel, cnt, hit, hnx, HS, hf, hc1, hc2⟩ := hrel
    have hpos0 := iterPos_of hit
    obtain ⟨c, hc⟩ : ∃ c, (Utf8.decode s pos).1 = c := ⟨_, rfl⟩
    obtain ⟨wd, hwd⟩ : ∃ wd, (Utf8.decode s pos).2 = wd := ⟨_, rfl⟩
    by_cases hp : pos < s.size
    · have hnext : ∀ ty, (Instr.next (.pointer (some ⟨w.heap.size, 0, none⟩)) true ty).run Tryd.prog wr = _ := fun ty => Lib.run_next_any_at wr w.heap.size s pos ty hit hp
      rw [hc, hwd] at hnext
      have hwd1 : 1 ≤ wd := by rw [← hwd]; exact width_pos s pos
      obtain ⟨W1, hW1⟩ : ∃ W1, W1 = wr.iterAt w.heap.size s (pos + wd) := ⟨_, rfl⟩
      rw [← hW1] at hnext
      have hit2 : W1.heap[w.heap.size]? = some (.stringIter s (pos + wd)) := by rw [hW1]; exact Lib.iterAt_heap wr _ s pos _ hit
      have hnx1 : Nx w W1 b (v + cnt) := by
        subst hW1
        exact ⟨hnx.os, hnx.tape, hnx.output, by rw [Lib.iterAt_size]; exact hnx.size, fun c hc hne => (Lib.iterAt_other wr _ c s _ (by omega)).trans (hnx.keep c hc hne), (Lib.iterAt_other wr _ b s _ (by omega)).trans hnx.box⟩
      have hbox1 := hnx1.box
      clear hW1 hit hnx
      have hinc := inc_walk b (v + cnt) (.int .i64 pos) (.int .i32 c) W1 hbox1
      by_cases hbad : c = 65533
      · subst hbad
        have hext : (s.extract pos s.size).data.toList = s.data.toList.drop pos := by
          simp only [ByteArray.data_extract, Array.toList_extract, List.extract_eq_drop_take]
          exact List.take_of_length_le (by simp)
        have hgo : Lib.decodeGo (s.extract pos s.size) = (65533, wd) := by
          have h1 : (s.extract pos s.size).size ≠ 0 := by simp; omega
          unfold Lib.decodeGo
          rw [if_neg h1, ← Lib.decodeL_drop, List.drop_zero, hext, Lib.decodeL_drop, ← hc, ← hwd]
        have hT1 : Lib.Utf8Tabs 1 2 W1 := by
          have k0 : W1.heap[1]? = w.heap[1]? := hnx1.keep 1 (by omega) (by omega)
          have k1 : W1.heap[2]? = w.heap[2]? := hnx1.keep 2 (by omega) (by omega)
          refine ⟨fun c hc => ?_, fun i hi => ⟨?_, ?_⟩⟩
          · have := hT.1 c hc
            simp only [World.cell?, k0] at this ⊢; exact this
          · have := (hT.2 i hi).1
            simp only [World.cell?, k1] at this ⊢; exact this
          · have := (hT.2 i hi).2
            simp only [World.cell?, k1] at this ⊢; exact this
        have cD := Any.utf8_DecodeRuneInString Tryd.lays197 (s.extract pos s.size) W1 hT1
        rw [hgo] at cD
        go_wp2_with (fail)
        refine Calls.mono cD ?_
        rintro e w2 ⟨rfl, hbw⟩
        simp only []
        go_at_K
        have hnx2 := hnx1.below hbl hbw
        obtain ⟨f, rfl⟩ : ∃ f, fuel = f + 1 := ⟨fuel - 1, by omega⟩
        by_cases hw2 : wd < 2
        · have e : R = none := by
            have := HS.out
            rw [this, runesN_step hc hwd hp, if_pos ⟨rfl, hw2⟩]; rfl
          subst e
          have hw2' : (wd : Int) < 2 := by omega
          go_wp2
          exact ⟨rfl, ⟨_, hnx2⟩, _, rfl⟩
        · have hit3 : w2.heap[w.heap.size]? = some (.stringIter s (pos + wd)) := (hbw.block _ (Array.getElem?_eq_some_iff.1 hit2).1).trans hit2
          have hinc := inc_walk b (v + cnt) (.int .i64 pos) (.int .i32 65533) w2 hnx2.box
          have hw2' : ¬ (wd : Int) < 2 := by omega
          go_wp2_with (fail)
          refine hinc.mono ?_
          rintro e w' ⟨rfl, rfl⟩
          simp only []
          go_at_K
          try go_wp2
          obtain ⟨g1, g2, g3⟩ := setCell_box hnx2.box (.int .i64 (wrap64 (v + cnt + 1)))
          have hit4 := (g2 w.heap.size (by omega)).trans hit3
          have hw64 : wrap64 (v + cnt + 1) = v + ((cnt + 1 : Nat) : Int) := by (have : wrap64 (v + cnt + 1) = v + cnt + 1 := by unfold wrap64; omega); rw [this]; push_cast; omega
          refine ⟨⟨pos + wd, f, cnt + 1, hit4, by rw [hw64]; exact hnx2.set _, ?_, by omega, by omega, by omega⟩, ?_⟩
          · have := HS.out
            show R = _
            rw [this, runesN_step hc hwd hp, if_neg (by omega)]
            cases runesN s f (pos + wd) <;> simp; omega
          · rw [iterPos_of hit4, hpos0]; omega
      · have hbad' : ((c : Int) == 65533) = false := by simp; omega
        go_wp2_with (fail)
        refine hinc.mono ?_
        rintro e w' ⟨rfl, rfl⟩
        simp only []
        go_at_K
        try go_wp2
        obtain ⟨g1, g2, g3⟩ := setCell_box hbox1 (.int .i64 (wrap64 (v + cnt + 1)))
        have hit3 := (g2 w.heap.size (by omega)).trans hit2
        have hw64 : wrap64 (v + cnt + 1) = v + ((cnt + 1 : Nat) : Int) := by (have : wrap64 (v + cnt + 1) = v + cnt + 1 := by unfold wrap64; omega); rw [this]; push_cast; omega
        refine ⟨⟨pos + wd, fuel - 1, cnt + 1, hit3, by rw [hw64]; exact hnx1.set _, ?_, by omega, by omega, by omega⟩, ?_⟩
        · have := HS.out
          show R = _
          rw [this]
          obtain ⟨f, rfl⟩ : ∃ f, fuel = f + 1 := ⟨fuel - 1, by omega⟩
          rw [runesN_step hc hwd hp, if_neg (by omega), Nat.add_sub_cancel]
          cases runesN s f (pos + wd) <;> simp; omega
        · rw [iterPos_of hit3, hpos0]; omega
    · have hnext : ∀ ty, (Instr.next (.pointer (some ⟨w.heap.size, 0, none⟩)) true ty).run Tryd.prog wr = _ := fun ty => Lib.run_next_end_at wr w.heap.size s pos ty hit hp
      have e : R = some cnt := by
        have := HS.out
        rw [this, runesN_end s hp]; simp
      subst e
      go_wp2
      go_end0
      exact ⟨hnx, rfl⟩

/-! ### through -/
theorem catch_panicking (b : Nat) (x : Value) (u : Value) (older : List PanicEntry) (w : World) (hb : w.heap[b]? = some (.cells #[.bool false] 4 (0, 0))) :
    CallsD Tryd.prog 209 #[.pointer (some ⟨b, 0, none⟩)] (.panicking ({ v := .iface 239 u, recovered := false } :: older)) w fun e u' w' =>
      e = .returned (.tuple #[]) ∧ u' = .panicking ({ v := .iface 239 u, recovered := true } :: older) ∧ w' = (w.setCell ⟨b, 0, none⟩ (.bool true)).setCell ⟨b, 0, none⟩ (.bool false) := by
  have h1 : w.cell? ⟨b, 0, none⟩ = some (.bool false) := by simp [World.cell?, hb]
  have h2 : w.frozen? ⟨b, 0, none⟩ = false := by simp [World.frozen?, hb]
  refine callsD_of_wpS Tryd.func209 rfl fun c₀ cs hu => ?_
  apply wpS_seq
  apply wpS_region
  simp [wpOpsS, go_sem, recoverD, hu, Tryd.ntmps209, Exit.thenS]
  apply wpS_seq
  apply wpS_region
  simp [wpOpsS, go_sem, Exit.thenS]
  refine wpS_cond (t := true) (by simp [Act.eval, Array.replicate]) ?_
  simp only [if_true]
  apply wpS_seq
  apply wpS_region
  have h88 := Tryd.underlying239
  have hta : ∀ (w : World), (Instr.typeAssert (.iface 239 u) 20 239 true).run Tryd.prog w = .ok (.tuple #[u, .bool true]) w := fun w => by
    simp [Instr.typeAssert, Sem.run_bind, run_underlying h88, Result.andThen, Sem.run_pure]
  simp [wpOpsS, go_sem, hta, h1, h2, Exit.thenS]
  apply wpS_region
  simp [wpOpsS, go_sem, h1, h2, bodyPostS, results, Tryd.results209]

theorem catch_idle (b : Nat) (w : World) :
    CallsD Tryd.prog 209 #[.pointer (some ⟨b, 0, none⟩)] .returning w fun e u' w' => e = .returned (.tuple #[]) ∧ u' = .returning ∧ w' = w := by
  have hnn : ∀ w, (binOp .neq 20 .nilIface .nilIface).run Tryd.prog w = .ok (.bool false) w := fun w => Lib.run_neq_nil_nil w Tryd.underlying20
  refine callsD_of_wpS Tryd.func209 rfl fun c₀ cs hu => ?_
  apply wpS_seq
  apply wpS_region
  simp [wpOpsS, go_sem, recoverD, hu, Tryd.ntmps209, Exit.thenS]
  apply wpS_seq
  apply wpS_region
  simp [wpOpsS, go_sem, hnn, Exit.thenS]
  refine wpS_cond (t := false) (by simp [Act.eval, Array.replicate]) ?_
  simp only [Bool.false_eq_true, if_false]
  refine wpS_of_wp (wp_skip ?_)
  cases c₀
  simp_all [bodyPostS, results, Tryd.results209]

theorem Utf8Tabs.alloc {w : World} (hT : Lib.Utf8Tabs 1 2 w) (h : 3 ≤ w.heap.size) (o : Obj) : Lib.Utf8Tabs 1 2 (w.alloc o) := by
  have hb : Below w.heap.size w (w.alloc o) := (Below.refl _ _).alloc (Nat.le_refl _) o
  have k0 := hb.block 1 (by omega)
  have k1 := hb.block 2 (by omega)
  refine ⟨fun c hc => ?_, fun i hi => ⟨?_, ?_⟩⟩
  · have := hT.1 c hc
    simp only [World.cell?, k0] at this ⊢; exact this
  · have := (hT.2 i hi).1
    simp only [World.cell?, k1] at this ⊢; exact this
  · have := (hT.2 i hi).2
    simp only [World.cell?, k1] at this ⊢; exact this

theorem through_walk (s : ByteArray) (w : World) (b : Nat) (v : Int) (hb : w.heap[b]? = some (.cells #[.int .i64 v] 3 (0, 0))) (h2 : 3 ≤ b) (hv : 0 ≤ v) (hvs : v + s.size < 9223372036854775808) (hT : Lib.Utf8Tabs 1 2 w) (R : Option Nat) (hR : runesN s s.size 0 = R) :
    Calls Tryd.prog 205 #[.string s, .func (.func 206) #[] #[.pointer (some ⟨b, 0, none⟩)]] w fun e w' => ∃ v', Nx w w' b v' ∧ e = .returned (.bool R.isSome) ∧ ∀ n, R = some n → v' = v + n := by
  have hbl : b < w.heap.size := (Array.getElem?_eq_some_iff.1 hb).1
  obtain ⟨W1, hW1⟩ : ∃ W1, W1 = w.alloc (.cells #[.bool false] 4 (0, 0)) := ⟨_, rfl⟩
  have hbelow : Below w.heap.size w W1 := by rw [hW1]; exact (Below.refl _ _).alloc (Nat.le_refl _) _
  have hb1 : W1.heap[b]? = some (.cells #[.int .i64 v] 3 (0, 0)) := (hbelow.block b hbl).trans hb
  have hT1 : Lib.Utf8Tabs 1 2 W1 := by rw [hW1]; exact Utf8Tabs.alloc hT (by omega) _
  have hok : W1.heap[w.heap.size]? = some (.cells #[.bool false] 4 (0, 0)) := by rw [hW1]; exact World.alloc_heap_new w _
  have hsz1 : w.heap.size < W1.heap.size := (Array.getElem?_eq_some_iff.1 hok).1
  have hE := each_walk s W1 b v hb1 h2 hv hvs hT1 R hR
  have hmf : ∀ (fn : Fn) (first cap : Array Value) (w : World), (Instr.makeFunc fn first cap).run Tryd.prog w = .ok (.func fn first cap) w := fun _ _ _ _ => rfl
  go_enter_defers Tryd.func205, Tryd.ntmps205
  go_wp2_with (fail)
  rw [hW1] at hE
  refine hE.mono ?_
  rintro e w2 ⟨v', hn, he⟩
  have hok2 : w2.heap[w.heap.size]? = some (.cells #[.bool false] 4 (0, 0)) := (hn.keep _ (hW1 ▸ hsz1) (by omega)).trans (hW1 ▸ hok)
  have hnx : Nx w w2 b v' := by
    subst hW1
    exact ⟨hn.os, hn.tape, hn.output, Nat.le_trans hbelow.size hn.size, fun c hc hne => (hn.keep c (Nat.lt_of_lt_of_le hc hbelow.size) hne).trans (hbelow.block c hc), hn.box⟩
  have hset : ∀ (w3 : World) (y : Value), Nx w w3 b v' → w3.heap[w.heap.size]? = some (.cells #[y] 4 (0, 0)) → ∀ z, Nx w (w3.setCell ⟨w.heap.size, 0, none⟩ z) b v' ∧ (w3.setCell ⟨w.heap.size, 0, none⟩ z).heap[w.heap.size]? = some (.cells #[z] 4 (0, 0)) := by
    intro w3 y h3 h4 z
    obtain ⟨g1, g2, g3⟩ := setCell_box h4 z
    exact ⟨⟨h3.os, h3.tape, h3.output, by rw [g3]; exact h3.size, fun c hc hne => (g2 c (by omega)).trans (h3.keep c hc hne), (g2 b (by omega)).trans h3.box⟩, g1⟩
  cases R with
  | none =>
    obtain ⟨x, rfl⟩ := he
    simp only []
    refine leaves_cons (f := 209) (args := #[.pointer (some ⟨w.heap.size, 0, none⟩)]) (by simp) (by simp [go_sem]) ?_
    refine (catch_panicking w.heap.size x x [] _ hok2).mono ?_
    rintro e u' w'' ⟨rfl, rfl, rfl⟩
    obtain ⟨n1, b1⟩ := hset w2 _ hnx hok2 (.bool true)
    obtain ⟨n2, b2⟩ := hset _ _ n1 b1 (.bool false)
    have c2 : ((w2.setCell ⟨w.heap.size, 0, none⟩ (.bool true)).setCell ⟨w.heap.size, 0, none⟩ (.bool false)).cell? ⟨w.heap.size, 0, none⟩ = some (.bool false) := by simp [World.cell?, b2]
    simp [Leaves, settle, results, Tryd.results205, go_sem, c2]
    exact ⟨v', n2⟩
  | some n =>
    obtain ⟨rfl, rfl⟩ := he
    simp only []
    rename_i hk1 hk2
    have c1 : w2.cell? ⟨w.heap.size, 0, none⟩ = some (.bool false) := by simp [World.cell?, hok2]
    have f1 : w2.frozen? ⟨w.heap.size, 0, none⟩ = false := by simp [World.frozen?, hok2]
    obtain ⟨n1, b1⟩ := hset w2 _ hnx hok2 (.bool true)
    have c2 : (w2.setCell ⟨w.heap.size, 0, none⟩ (.bool true)).cell? ⟨w.heap.size, 0, none⟩ = some (.bool true) := by simp [World.cell?, b1]
    apply hk2
    go_wp2
    refine leaves_cons (f := 209) (args := #[.pointer (some ⟨w.heap.size, 0, none⟩)]) (by simp) (by simp [go_sem]) ?_
    refine (catch_idle w.heap.size _).mono ?_
    rintro e u' w'' ⟨rfl, rfl, rfl⟩
    simp [Leaves, settle, results, Tryd.results205, go_sem, c2]
    exact n1

set_option maxRecDepth 100000 in
theorem runes_walk (s : ByteArray) (w : World) (h2 : 3 ≤ w.heap.size) (hvs : s.size < 9223372036854775808) (hT : Lib.Utf8Tabs 1 2 w) (R : Option Nat) (hR : runesN s s.size 0 = R) :
    Calls Tryd.prog 196 #[.string s] w fun e w' => e = .returned (.int .i64 (runesI R)) ∧ Below w.heap.size w w' := by
  have hok : (w.alloc (.cells #[.int .i64 0] 3 (0, 0))).heap[w.heap.size]? = some (.cells #[.int .i64 0] 3 (0, 0)) := World.alloc_heap_new w _
  have hbelow : Below w.heap.size w (w.alloc (.cells #[.int .i64 0] 3 (0, 0))) := (Below.refl _ _).alloc (Nat.le_refl _) _
  have hE := through_walk s _ w.heap.size 0 hok h2 (by omega) (by omega) (Utf8Tabs.alloc hT h2 _) R hR
  have hset := (setCell_box hok (.int .i64 0)).1
  have hmf : ∀ (fn : Fn) (first cap : Array Value) (w : World), (Instr.makeFunc fn first cap).run Tryd.prog w = .ok (.func fn first cap) w := fun _ _ _ _ => rfl
  go_enter Tryd.func196, Tryd.ntmps196
  go_wp2_with (fail)
  refine hE.mono ?_
  rintro e w2 ⟨v', hn, rfl, hv⟩
  have hbel : Below w.heap.size w w2 := ⟨hn.os, hn.tape, hn.output, Nat.le_trans hbelow.size hn.size, fun c hc => (hn.keep c (Nat.lt_of_lt_of_le hc hbelow.size) (by omega)).trans (hbelow.block c hc)⟩
  have c1 : w2.cell? ⟨w.heap.size, 0, none⟩ = some (.int .i64 v') := by simp [World.cell?, hn.box]
  rename_i hk1 hk2
  cases R with
  | none =>
    simp only [Option.isSome_none]
    clear hE hn hT hok hbelow hset hv
    apply hk2
    go_wp2
    try go_wp2
    first | (go_ret; exact ⟨rfl, hbel⟩) | (go_ret2; exact ⟨rfl, hbel⟩) | (go_end0; exact ⟨rfl, hbel⟩) | (simp [bodyPost, results, Tryd.results196, Act.put]; exact hbel)
  | some n =>
    obtain rfl : v' = (n : Int) := by have := hv n rfl; omega
    simp only [Option.isSome_some]
    clear hE hn hT hok hbelow hset hv
    apply hk2
    go_wp2
    try go_wp2
    first | (go_ret; exact ⟨rfl, hbel⟩) | (go_ret2; exact ⟨rfl, hbel⟩) | (go_end0; exact ⟨rfl, hbel⟩) | (simp [bodyPost, results, Tryd.results196, Act.put]; exact hbel)
end Go.Proofs.YtbilmkcdhodenaaDoor
