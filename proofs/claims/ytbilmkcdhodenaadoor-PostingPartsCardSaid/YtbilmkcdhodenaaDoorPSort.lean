/-
  Chapter 13 (posting): slices.SortFunc and slices.Grow at []api.Posting, told to EV.
-/
import Derived.Test.YtbilmkcdhodenaaDoorPCmp
import Derived.Test.YtbilmkcdhodenaaDoorPM3
import Derived.Test.YtbilmkcdhodenaaDoorEnvA
import Derived.Shelf.SlSortCmp.WholeK
import Derived.Shelf.Spec.SlicesGrow
set_option linter.all false
set_option linter.unusedSimpArgs false
set_option linter.unusedVariables false
namespace Go.Proofs.YtbilmkcdhodenaaDoor
open Go Go.Ev Go.Sort

theorem encO_len (x : Pst) : (encO x).length = 3 := rfl
theorem encO_one (x : Pst) : ∀ v ∈ encO x, v.oneCell' = true := fun v hv => by
  simp [encO] at hv
  rcases hv with rfl | rfl | rfl <;> rfl
theorem cmpLays81 (blk off size : Nat) (w : World) : CmpLays Tryd.prog 81 #[] encO 3 orderP blk off size w :=
  fun _ _ _ _ x y => order_walk x y _
theorem enter80 : Enter Tryd.prog 80 := fun args w => by
  simp only [callFunc, Sem.run_bind, run_program, Result.andThen_ok, Tryd.func80]
  rfl
theorem enter81 (args : Array Value) (w : World) : (callFunc 81 args).run Tryd.prog w = .ok (.enter 81 args) w := by
  simp only [callFunc, Sem.run_bind, run_program, Result.andThen_ok, Tryd.func81]
  rfl
theorem mixedOk : Tryd.prog.follows .mixedOrders = true := by kernel_rfl
noncomputable def E1 : Env := E0 (fun _ => none) (fun _ _ _ => none)
theorem empty80 : callN E1 40 80 [.buf 0 0 0 0, .fn 81 []] [.mem 3 0 []] = some ([], [.mem 3 0 []]) := by kernel_rfl
theorem sort_walk (zs : List Pst) (b d cap : Nat) (w : World) (hH : HoldsK encO 3 w b d zs.toArray) (hb : b < w.heap.size) (hz : zs.length < 4611686018427387904) :
    Calls Tryd.prog 80 #[.slice (some ⟨b, d, none⟩) zs.length cap, .func (.func 81) #[] #[]] w fun e w' => e = .returned (.tuple #[]) ∧ ∃ n os, w' = sortWorldK encO 3 w b d n (sortO zs).toArray os := by
  have h := AnyQ.slices_SortFunc_eq Tryd.sortO 3 Tryd.isAgg80 Tryd.sizeOf80 encO encO_len encO_one orderP swoO 81 #[] b d cap zs.toArray w enter81 (cmpLays81 b d _ w) hH hb (by simpa using hz)
  have e1 : zs.toArray.size = zs.length := by simp
  have e2 : (sortO zs).toArray = pdq (ltOf orderP) zs.toArray 0 zs.toArray.size (Lib.bitLen zs.toArray.size) true true := by
    rw [e1]; rfl
  rw [e2]
  rw [e1] at h ⊢
  exact h
theorem cell_eo (x : Pst) {w : World} {A : Nat → Prop} {j : Nat} {c : C} {u : Value} (hj : (eo x)[j]? = some c) (hu : RepC w A c u) : (encO x)[j]? = some u := by
  match j, hj with
  | 0, hj =>
    simp only [eo, List.getElem?_cons_zero, Option.some.injEq] at hj
    subst hj; cases hu; rfl
  | 1, hj =>
    simp only [eo, List.getElem?_cons_succ, List.getElem?_cons_zero, Option.some.injEq] at hj
    subst hj; cases hu; rfl
  | 2, hj =>
    simp only [eo, List.getElem?_cons_succ, List.getElem?_cons_zero, Option.some.injEq] at hj
    subst hj; cases hu; rfl
  | j + 3, hj => simp [eo] at hj
theorem eo_cell (x : Pst) {w : World} {A : Nat → Prop} {j : Nat} {c : C} (hj : (eo x)[j]? = some c) : ∃ u, (encO x)[j]? = some u ∧ RepC w A c u := by
  match j, hj with
  | 0, hj =>
    simp only [eo, List.getElem?_cons_zero, Option.some.injEq] at hj
    subst hj; exact ⟨_, rfl, .str _⟩
  | 1, hj =>
    simp only [eo, List.getElem?_cons_succ, List.getElem?_cons_zero, Option.some.injEq] at hj
    subst hj; exact ⟨_, rfl, .int _ _⟩
  | 2, hj =>
    simp only [eo, List.getElem?_cons_succ, List.getElem?_cons_zero, Option.some.injEq] at hj
    subst hj; exact ⟨_, rfl, .int _ _⟩
  | j + 3, hj => simp [eo] at hj
theorem flat_get (l : List Pst) (k j : Nat) (hk : k < l.length) (hj : j < 3) : (flatK encO 3 l.toArray)[k * 3 + j]! = (encO l[k])[j]! := by
  rw [get_flatK encO 3 l.toArray (k * 3 + j) (by simp; omega)]
  have e1 : (k * 3 + j) / 3 = k := by omega
  have e2 : (k * 3 + j) % 3 = j := by omega
  rw [e1, e2]
  have : l.toArray[k]! = l[k] := by simp [hk]
  rw [this]

theorem sound80 {args vals : List V} {H H' : Hp} (h : x80 args H = some (vals, H')) : Enter Tryd.prog 80 ∧ Sound Tryd.prog Kw 80 args H vals H' := by
  unfold x80 at h
  split at h
  case h_2 => simp at h
  rename_i len xs
  split at h <;> simp only [Option.some.injEq, Prod.mk.injEq, reduceCtorEq] at h
  rename_i hc
  obtain ⟨hi, rfl, hlt⟩ := hc
  obtain ⟨rfl, rfl⟩ := h
  refine ⟨enter80, ?_⟩
  by_cases hne : xs = []
  · subst hne
    have e : psts (sortO (toPsts [])) = [] := by
      have := sortO_len [] (by simp)
      rw [show toPsts [] = [] from rfl, List.length_eq_zero_iff.1 this]; rfl
    rw [e]
    exact (callN_sound (K := Kw) (draw_ok mixedOk) (env_ok fun g f args H vals H' h => by cases h) 40 _ _ _ _ _ empty80).2
  intro w A bl us hcx hH hargs
  obtain ⟨hl, hr⟩ := hargs
  match us, hl, hr with
  | [u, v], _, hr =>
    have hv := hr 1 _ v rfl rfl
    have hv' : v = .func (.func 81) #[] #[] := by
      cases hv with
      | fn _ _ vs hs _ =>
        have : vs = #[] := by apply Array.eq_empty_of_size_eq_zero; simpa using hs.symm
        rw [this]
    subst hv'
    have hu := hr 0 _ u rfl rfl
    cases hu with
    | buf _ _ _ _ a l cap k1 k2 k3 =>
      obtain ⟨j1, rfl, ⟨j2, j3, j4⟩, j5⟩ := k3 3 xs rfl
      have hpos : 0 < xs.length := List.length_pos_iff.2 hne
      obtain ⟨b, d, n, h1, rfl, h3, h4⟩ := j5 (by omega)
      obtain ⟨o1, o2, o3⟩ := hH.obj 0 _ rfl
      obtain ⟨arr, t, g1, g2, g3⟩ := o3 b d h1
      have hx := psts_of hi
      generalize hz : toPsts xs = zs at hx
      subst hx
      simp only [psts_length] at *
      have hblt : b < w.heap.size := (hH.lt 0 b d ⟨_, rfl, rfl⟩ h1).1
      have hcell : ∀ t, t < zs.length * 3 → arr[d + t]? = some ((flatK encO 3 zs.toArray)[t]!) := fun t ht => by
        have hk : t / 3 < zs.length := by omega
        have hj : t % 3 < 3 := by omega
        obtain ⟨c, hcj⟩ : ∃ c, (eo zs[t / 3])[t % 3]? = some c := ⟨(eo zs[t / 3])[t % 3]'(by simpa [eo] using hj), List.getElem?_eq_getElem _⟩
        obtain ⟨u, u1, u2⟩ := g3 (t / 3) (t % 3) (eo zs[t / 3]) c (by simp [psts, hk]) hcj
        have := cell_eo _ hcj u2
        have e : t / 3 * 3 + t % 3 = t := by omega
        rw [show d + t = d + t / 3 * 3 + t % 3 by omega, u1]
        conv => rhs; rw [← e, flat_get zs _ _ hk hj]
        rw [List.getElem!_eq_getElem?_getD, this]; rfl
      have hHolds : HoldsK encO 3 w b d zs.toArray := fun j hj => by
        have hj' : j < zs.length * 3 := by simpa using hj
        refine ⟨?_, by simp [World.frozen?, g1]⟩
        rw [cell_of_heap g1, hcell j hj']
        rfl
      have hs := sort_walk zs b d cap w hHolds hblt (by omega)
      have e0 : (⟨b, d + 0 * 3, none⟩ : Addr) = ⟨b, d, none⟩ := by simp
      rw [e0]
      refine Calls.mono hs ?_
      rintro e w' ⟨rfl, nn, os, hw'⟩
      have hlen := sortO_len zs (by omega)
      generalize sortO zs = ss at *
      have hfs : (flatK encO 3 ss.toArray).size = zs.length * 3 := by simp [hlen]
      replace hw' : w' = Go.Sort.grow (putRow id (Sort.ahead w nn) b d (flatK encO 3 ss.toArray)) os := hw'
      have hw1 : (putRow id (Sort.ahead w nn) b d (flatK encO 3 ss.toArray)).heap[b]? = some (.cells (putCells id d (flatK encO 3 ss.toArray) arr) t (0, 0)) := by
        simp [putRow, mapBlock, Array.getElem?_modify, g1, onCells]
      have hk1 : ∀ c, c ≠ b → (putRow id (Sort.ahead w nn) b d (flatK encO 3 ss.toArray)).heap[c]? = w.heap[c]? := fun c hc => by
        simp [putRow, mapBlock, Array.getElem?_modify, Ne.symm hc]
      have hsz1 : (putRow id (Sort.ahead w nn) b d (flatK encO 3 ss.toArray)).heap.size = w.heap.size := by simp
      have hos2 : (putRow id (Sort.ahead w nn) b d (flatK encO 3 ss.toArray)).os = w.os ∧ (putRow id (Sort.ahead w nn) b d (flatK encO 3 ss.toArray)).tape = w.tape ∧ (putRow id (Sort.ahead w nn) b d (flatK encO 3 ss.toArray)).output = w.output := ⟨rfl, rfl, rfl⟩
      generalize putRow id (Sort.ahead w nn) b d (flatK encO 3 ss.toArray) = W2 at hw1 hk1 hsz1 hw' hos2
      subst hw'
      have hps : (putCells id d (flatK encO 3 ss.toArray) arr).size = arr.size := by simp [putCells]
      have hle := le_set (o' := O.mem 3 0 (psts ss)) hH (i0 := 0) rfl rfl h1 g1 hps hw1 hk1 (fun z e xs' he => by
        simp only [O.mem.injEq] at he
        obtain ⟨rfl, rfl, rfl⟩ := he
        exact ⟨0, psts zs, rfl, Nat.le_refl _, fun _ => by rw [psts_length, psts_length, hlen]⟩) (fun cs he => by cases he)
      have hrep := rep_set hH (i0 := 0) rfl rfl h1 hle hk1 hsz1 (by
        refine ⟨fun cs hcs => ?_, fun hn => (by rw [h1] at hn; cases hn), fun b' d' hb' => ?_⟩
        · simp only [psts, List.mem_map] at hcs
          obtain ⟨x, _, rfl⟩ := hcs
          rfl
        · rw [h1] at hb'
          simp only [Option.some.injEq, Prod.mk.injEq] at hb'
          obtain ⟨rfl, rfl⟩ := hb'
          refine ⟨_, t, hw1, by rw [hps]; simpa [hlen] using g2, fun k j cs x hk hj => ?_⟩
          have hk' : k < ss.length := by have := (List.getElem?_eq_some_iff.1 hk).1; simpa using this
          simp only [psts, List.getElem?_map, List.getElem?_eq_getElem hk', Option.map_some, Option.some.injEq] at hk
          subst hk
          have hj3 : j < 3 := by have := (List.getElem?_eq_some_iff.1 hj).1; simpa [eo] using this
          obtain ⟨u, hu1, hu2⟩ := eo_cell (w := Go.Sort.grow W2 os) (A := A) ss[k] hj
          obtain ⟨u', hu1', hu2'⟩ := eo_cell (w := W2) (A := A) ss[k] hj
          refine ⟨u', ?_, hu2'⟩
          have hlt2 : d + k * 3 + j < arr.size := by omega
          simp only [putCells, Array.getElem?_mapIdx, Array.getElem?_eq_getElem hlt2, Option.map_some, Option.some.injEq]
          rw [if_pos ⟨by omega, by rw [hfs]; omega⟩]
          have e5 : d + k * 3 + j - d = k * 3 + j := by omega
          rw [e5]
          show (flatK encO 3 ss.toArray)[k * 3 + j]! = u'
          rw [flat_get ss k j hk' hj3, List.getElem!_eq_getElem?_getD, hu1']; rfl) hos2
      have g : Grow W2 (Go.Sort.grow W2 os) := ⟨rfl, rfl, rfl, by simp, fun c hc => heap_grow_old W2 os hc⟩
      have hset : ([O.mem 3 0 (psts zs)] : Hp).set 0 (O.mem 3 0 (psts ss)) = [O.mem 3 0 (psts ss)] := rfl
      rw [hset] at hrep hle
      obtain ⟨q1, q2⟩ := Ev.grow hrep g (N := fun _ => False) (fun b hb => hb.elim)
      refine ⟨_, bl, [], rfl, ⟨rfl, fun j x u hj => by simp at hj⟩, q1, hle.trans q2, ?_⟩
      refine Evo.trans (A1 := A) (L1 := Liv bl [O.mem 3 0 (psts ss)]) ?_ (g.evo (fun b hb => .inl hb) (fun b hb => hb.elim .inl False.elim))
      exact ⟨hos2.1, hos2.2.1, hos2.2.2, by omega, fun c hc hL => hk1 c fun e => hL (.inl ⟨0, d, ⟨_, rfl, rfl⟩, e ▸ h1⟩), fun c hc => .inl (liv_set (i0 := 0) (o := .mem 3 0 (psts zs)) rfl rfl hc), fun c hc => .inl hc⟩

theorem sound123 {args vals : List V} {H H' : Hp} (h : x123 args H = some (vals, H')) : Enter Tryd.prog 123 ∧ Sound Tryd.prog Kw 123 args H vals H' := by
  unfold x123 at h
  split at h
  case h_2 => simp at h
  rename_i n
  split at h <;> simp only [Option.some.injEq, Prod.mk.injEq, reduceCtorEq] at h
  rename_i hc
  obtain ⟨rfl, rfl⟩ := h
  obtain ⟨n, rfl⟩ : ∃ m : Nat, n = (m : Int) := ⟨n.toNat, by omega⟩
  refine ⟨fun args w => ?_, fun w A bl us hcx hH hargs => ?_⟩
  · simp only [callFunc, Sem.run_bind, run_program, Result.andThen_ok, Tryd.func123]
    rfl
  · obtain ⟨hl, hr⟩ := hargs
    match us, hl, hr with
    | [u, v], _, hr =>
      have hv : v = .int .i64 (n : Int) := by
        have := hr 1 _ v rfl rfl
        cases this with | c _ _ h => cases h; rfl
      have hu : u = .slice none 0 0 := by
        have := hr 0 _ u rfl rfl
        rcases this.sl_inv with ⟨rfl, _, _⟩ | ⟨_, _, _, _, _, h, _⟩
        · rfl
        · exact absurd rfl h
      subst hv; subst hu
      rcases Nat.eq_zero_or_pos n with rfl | hpos
      · have h := Any8.slices_Grow_room Tryd.growO none 0 0 0 w (Nat.le_refl _) (by omega) (by omega) (by omega)
        refine Calls.mono h ?_
        rintro e w' ⟨rfl, rfl⟩
        obtain ⟨bl', b0, b1, b2, b3⟩ := push_none hH 3
        refine ⟨A, bl', [_], rfl, ⟨rfl, fun j x u hj hu => ?_⟩, b1, b2, b3⟩
        cases j with
        | zero =>
          simp at hj hu
          subst hj; subst hu
          exact buf_none rfl
        | succ j => simp at hj
      · obtain ⟨i, dd, hi⟩ := tyOf_is (P := Tryd.prog) ty80
        obtain ⟨z, hz1, hz2, hz3⟩ := zero_of (w := w) (A := A) (bl := bl) (H := []) hi rfl
        have hsz : i.size = 3 := hi.size.symm
        have hby : i.bytes = 32 := hi.bytes.symm
        have h := Any8.slices_Grow_grow Tryd.growO i z hi.info hz1 (by omega) none 0 0 n [] w (Nat.le_refl _) (by omega) (by rw [hby]; omega) (by omega) (by simp) (fun _ => rfl) (fun a h => by cases h)
        refine Calls.mono h ?_
        have hzs : z.cells.size = 3 := by simpa using hz3
        have hG : n ≤ grownCap w (0 + n) 0 (Tryd.growO_ren.t 25) := by have := grownCap_ge w (0 + n) 0 (Tryd.growO_ren.t 25); omega
        generalize grownCap w (0 + n) 0 (Tryd.growO_ren.t 25) = G at hG
        have hX : (([] : List Value).toArray ++ Builtin.zeroCells z.cells (0 + n - 0) ++ Builtin.zeroCells z.cells (G - (0 + n))).size = G * 3 := by
          simp only [Array.size_append, size_zeroCells, hzs]
          simp; omega
        generalize ([] : List Value).toArray ++ Builtin.zeroCells z.cells (0 + n - 0) ++ Builtin.zeroCells z.cells (G - (0 + n)) = X at hX
        rintro e w' ⟨rfl, rfl⟩
        obtain ⟨bl', b0, b1, b2, b3⟩ := push_mem hH (z := 3) (xs := []) (alloc_drew w (.cells X (Tryd.growO_ren.t 25))) (by simp) (by have := heap_alloc_new w.drew (.cells X (Tryd.growO_ren.t 25)); exact this) (fun cs h => by cases h) (by simp) (fun k j cs x h => by simp at h)
        refine ⟨A, bl', [_], rfl, ⟨rfl, fun j x u hj hu => ?_⟩, b1, b2, b3⟩
        cases j with
        | zero =>
          simp at hj hu
          subst hj; subst hu
          refine .buf _ _ _ _ _ _ _ (by simp) (fun z e xs _ => Nat.zero_le _) fun z' xs' h' => ?_
          simp at h'
          obtain ⟨rfl, rfl⟩ := h'
          refine ⟨by simp, rfl, ⟨by omega, fun _ a0 h => (by simp only [Option.some.injEq] at h; subst h; rfl), fun h => (by simp at h)⟩, fun _ => ⟨w.heap.size, 0, X.size, b0, by simp, ?_, by rw [hX]; omega⟩⟩
          have hnew := heap_alloc_new w.drew (.cells X (Tryd.growO_ren.t 25))
          simp only [rowOf]
          have e0 : w.drew.heap.size = w.heap.size := rfl
          rw [e0] at hnew
          rw [hnew]; rfl
        | succ j => simp at hj
end Go.Proofs.YtbilmkcdhodenaaDoor
