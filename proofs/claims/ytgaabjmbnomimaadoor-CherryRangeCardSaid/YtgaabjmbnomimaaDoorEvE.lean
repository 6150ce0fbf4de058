/-
  EV, part E: the operations that make memory; append; EV, part F: every operation that is no call of a Go function; EV, part G: objects under other numbers; rows that are only read from now on; EV, part H: a call of a Go function, handed what it needs of the heap; EV, part I: operations, regions, a loop's head: what the abstract interpreter says, the machine does.
-/
import Derived.Deep.Upon
import Derived.RangeFuncNested
import Derived.OrdersIn
import Derived.LoopNIn
import Derived.Scope
import Derived.Test.YtgaabjmbnomimaaDoorEvA
set_option linter.all false
namespace Go.Ev
section
variable {P : Program} {w w' : World} {A : Nat -> Prop} {bl : Bl} {H : Hp} {fr : Fr} {a : Act}
theorem heap_alloc_new (w : World) (o : Obj) : (w.alloc o).heap[w.heap.size]? = some o := by
 show (w.heap.push o)[w.heap.size]? = _
 simp
theorem push_box (hH : RepH w A bl H) {cs : List V} {us : Array Value} (hl : cs.length = us.size) (hr : ∀ (j : Nat) (x : V) (u : Value), cs[j]? = some x -> us[j]? = some u -> RepV w A bl H x u) (t : TypeId) :
   ∃ bl', RepH (w.alloc (.cells us t)) A bl' (H ++ [.box cs]) /\ Le w A bl H (w.alloc (.cells us t)) A bl' (H ++ [.box cs]) /\ Evo w A (Liv bl H) (w.alloc (.cells us t)) A (Liv bl' (H ++ [.box cs])) ∧
     RepV (w.alloc (.cells us t)) A bl' (H ++ [.box cs]) (.ptr H.length 0 0 0) (.pointer (some ⟨w.heap.size, 0, none⟩)) := by
 have hle := le_push hH (Grow.alloc w (.cells us t)) (A' := A) (fun b hb => hb) (.box cs) (some (w.heap.size, 0))
 obtain ⟨h1, h2, h3⟩ := push hH (Grow.alloc w (.cells us t)) (.box cs) (some (w.heap.size, 0)) (fun b d h => by simp only [Option.some.injEq, Prod.mk.injEq] at h; simp; omega)
   ⟨w.heap.size, us, t, upd_same, heap_alloc_new _ _, hl.symm, fun j x u hj hu => (hr j x u hj hu).mono hle⟩
 refine ⟨_, h1, h2, h3, .ptr _ _ _ _ _ (by simp) (fun z e xs h => by simp at h) (fun cs' h => ⟨_, upd_same, fun _ => rfl⟩) (fun z xs h => by simp at h)⟩
theorem push_mem (hH : RepH w A bl H) {z : Nat} {xs : List (List C)} {arr : Array Value} {t : TypeId} (g : Grow w w') (hs : w'.heap.size = w.heap.size + 1) (hw : w'.heap[w.heap.size]? = some (.cells arr t (0, 0))) (hz : ∀ cs ∈ xs, cs.length = z) (hfit : xs.length * z <= arr.size)
   (hr : ∀ (k j : Nat) (cs : List C) (x : C), xs[k]? = some cs -> cs[j]? = some x -> ∃ u, arr[k * z + j]? = some u /\ RepC w A x u) :
   ∃ bl', bl' H.length = some (w.heap.size, 0) /\ RepH w' A bl' (H ++ [.mem z 0 xs]) /\ Le w A bl H w' A bl' (H ++ [.mem z 0 xs]) /\ Evo w A (Liv bl H) w' A (Liv bl' (H ++ [.mem z 0 xs])) := by
 have hle := le_push hH g (A' := A) (fun b hb => hb) (.mem z 0 xs) (some (w.heap.size, 0))
 obtain ⟨h1, h2, h3⟩ := push hH g (.mem z 0 xs) (some (w.heap.size, 0)) (fun b d h => by simp only [Option.some.injEq, Prod.mk.injEq] at h; omega)
   ⟨hz, fun hn => by rw [upd_same] at hn; simp at hn, fun b d hb => by
     rw [upd_same] at hb
     simp only [Option.some.injEq, Prod.mk.injEq] at hb
     obtain ⟨rfl, rfl⟩ := hb
     refine ⟨arr, t, hw, by omega, fun k j cs x hk hj => ?_⟩
     obtain ⟨u, hu1, hu2⟩ := hr k j cs x hk hj
     exact ⟨u, by rw [Nat.zero_add]; exact hu1, hu2.mono hle.C hle.A⟩⟩
 exact ⟨_, upd_same, h1, h2, h3⟩
theorem push_none (hH : RepH w A bl H) (z : Nat) : ∃ bl', bl' H.length = none /\ RepH w A bl' (H ++ [.mem z 0 []]) /\ Le w A bl H w A bl' (H ++ [.mem z 0 []]) /\ Evo w A (Liv bl H) w A (Liv bl' (H ++ [.mem z 0 []])) := by
 obtain ⟨h1, h2, h3⟩ := push hH (Grow.refl w) (.mem z 0 []) none (fun b d h => by simp at h)
   ⟨fun cs h => by simp at h, fun _ => rfl, fun b d hb => by rw [upd_same] at hb; simp at hb⟩
 exact ⟨_, upd_same, h1, h2, h3⟩
theorem buf_none {bl' : Bl} {H' : Hp} {i z : Nat} (hi : H'[i]? = some (.mem z 0 [])) : RepV w A bl' H' (.buf i 0 0 0) (.slice none 0 0) := by
 refine .buf i 0 0 0 none 0 0 (List.getElem?_eq_some_iff.1 hi).1 (fun z e xs _ => Nat.zero_le _) fun z' xs' h => ?_
 rw [hi] at h
 simp only [Option.some.injEq, O.mem.injEq] at h
 obtain ⟨rfl, _, rfl⟩ := h
 exact ⟨by simp, rfl, ⟨Nat.le_refl _, fun h => absurd rfl h, fun _ => rfl⟩, fun h => absurd rfl h⟩
theorem foldl_set : ∀ (vs : List Value) (k off : Nat) (cells : Array Value), off + k + vs.length <= cells.size →
   ((vs.zipIdx k).foldl (fun cs (p : Value × Nat) => cs.setIfInBounds (off + p.2) p.1) cells).toList = splice cells.toList (off + k) vs
 | [], k, off, cells, h => by simp [splice]
 | v :: vs, k, off, cells, h => by
   simp only [List.length_cons] at h
   simp only [List.zipIdx_cons, List.foldl_cons]
   have ih := foldl_set vs (k + 1) off (cells.setIfInBounds (off + k) v) (by simp; omega)
   rw [ih]
   simp only [Array.toList_setIfInBounds]
   have h1 : off + k < cells.toList.length := by simp; omega
   apply List.ext_getElem?
   intro j
   rw [splice_get (by simp; omega), splice_get (by simp; omega)]
   simp only [List.length_cons]
   by_cases hj : j = off + k
   · subst hj
     rw [if_neg (by omega), if_pos (by omega)]
     rw [List.getElem?_set_self h1]
     simp
   · rw [List.getElem?_set_ne (Ne.symm hj)]
     by_cases h2 : off + (k + 1) <= j /\ j < off + (k + 1) + vs.length
     · rw [if_pos h2, if_pos (by omega)]
       have : j - (off + k) = (j - (off + (k + 1))) + 1 := by omega
       rw [this]; simp
     · rw [if_neg h2, if_neg (by omega)]
theorem fill_run {place : Nat -> Option (Nat × Nat)} : ∀ {l : List (Nat × V)} {ul : List (Nat × Value)} {cells out : List V} {ucells : Array Value}, fillP place cells l = some out -> l.length = ul.length →
   (∀ (j : Nat) (x : Nat × V) (u : Nat × Value), l[j]? = some x -> ul[j]? = some u -> x.1 = u.1 /\ RepV w A bl H x.2 u.2) -> RepL w A bl H cells ucells.toList →
   ∃ uout : Array Value, Instr.fill place ucells ul = some uout /\ RepL w A bl H out uout.toList
 | [], ul, cells, out, ucells, h, hl, hr, hc => by
   obtain rfl : ul = [] := List.eq_nil_of_length_eq_zero hl.symm
   simp only [fillP, Option.some.injEq] at h
   subst h
   exact ⟨ucells, rfl, hc⟩
 | (i, v) :: l, ul, cells, out, ucells, h, hl, hr, hc => by
   match ul, hl with
   | (i', u) :: ul, hl =>
   obtain ⟨h1, h2⟩ := hr 0 _ _ rfl rfl
   simp only at h1 h2
   subst h1
   simp only [fillP] at h
   split at h
   case h_2 => simp at h
   rename_i off size hp
   split at h
   case isFalse => simp at h
   rename_i hcnd
   obtain ⟨c1, c2, c3⟩ := hcnd
   obtain ⟨r1, r2, r3⟩ := h2.cells c3
   have hcl := hc.1
   simp only [Array.length_toList] at hcl
   have hf := foldl_set u.cells.toList 0 off ucells (by simp; omega)
   have hstep : RepL w A bl H (splice cells off v.cells) ((u.cells.zipIdx.foldl (fun cs (p : Value × Nat) => cs.setIfInBounds (off + p.2) p.1) ucells).toList) := by
     have e : (u.cells.zipIdx.foldl (fun cs (p : Value × Nat) => cs.setIfInBounds (off + p.2) p.1) ucells).toList = splice ucells.toList off u.cells.toList := by
       simp only [Nat.add_zero] at hf
       rw [<- hf, <- Array.foldl_toList]
       simp
     rw [e]
     refine ⟨by rw [splice_len (by omega), splice_len (by simp; omega)]; simpa using hcl, fun j x y hj hy => ?_⟩
     rw [splice_get (by omega)] at hj
     rw [splice_get (by simp; omega)] at hy
     simp only [Array.length_toList, r1] at hy
     split at hj
     · rename_i hin; rw [if_pos hin] at hy; exact r2 _ _ _ hj (by simpa using hy)
     · rename_i hin; rw [if_neg hin] at hy; exact hc.2 _ _ _ hj hy
   obtain ⟨uout, g1, g2⟩ := fill_run h (by simpa using hl) (fun j x u hj hu => hr (j + 1) x u (by simpa using hj) (by simpa using hu)) hstep
   refine ⟨uout, ?_, g2⟩
   simp only [Instr.fill, hp]
   rw [if_neg (by simp [r1, c1]; omega)]
   exact g1
theorem opdP_rep (hF : RepF w A bl H fr a.tmps) : ∀ {xs : List (Nat × Operand)} {vs : List (Nat × V)}, opdP fr xs = some vs -> vs.length = (xs.map fun p => (p.1, a.eval p.2)).length ∧
   ∀ (j : Nat) (x : Nat × V) (u : Nat × Value), vs[j]? = some x -> (xs.map fun p => (p.1, a.eval p.2))[j]? = some u -> x.1 = u.1 /\ RepV w A bl H x.2 u.2
 | [], vs, h => by
   simp only [opdP, Option.some.injEq] at h
   subst h
   exact ⟨rfl, fun j x u hj => by simp at hj⟩
 | (i, x) :: r, vs, h => by
   simp only [opdP] at h
   split at h <;> simp only [Option.some.injEq, reduceCtorEq] at h
   rename_i v l h1 h2
   subst h
   obtain ⟨g1, g2⟩ := opdP_rep hF h2
   refine ⟨by simp at g1; simp [g1], fun j y u hj hu => ?_⟩
   cases j with
   | zero =>
     simp only [List.getElem?_cons_zero, Option.some.injEq, List.map_cons] at hj hu
     subst hj; subst hu
     exact ⟨rfl, opd_rep hF h1⟩
   | succ j =>
     simp only [List.getElem?_cons_succ, List.map_cons] at hj hu
     exact g2 j y u hj hu
theorem repL_zeroF {m m' : List C} {l : List Value} (h : cOfL l = some m) (hf : FixOf m m') : RepL w A bl H (m'.map .c) l :=
 ⟨by simp [hf.length, cOfL_len h], fun j x u hj hu => by
   simp only [List.getElem?_map, Option.map_eq_some_iff] at hj
   obtain ⟨c, hc, rfl⟩ := hj
   exact .c _ _ (hf.rep (fun j x u h1 h2 => cOfL_rep h j x u h1 h2) j c u hc hu)⟩
theorem run_zeroValue {t : TypeId} {i : TypeInfo} {z : Value} (hi : P.info? t = some i) (hz : i.zero = some z) (w : World) : (zeroValue t).run P w = .ok z w := by
 simp [zeroValue, typeInfo, hi, hz]
theorem run_mapM_pure {α β : Type} (f : α -> Sem β) (g : α -> β) (w : World) : ∀ (l : List α), (∀ x ∈ l, (f x).run P w = .ok (g x) w) -> (l.mapM f).run P w = .ok (l.map g) w
 | [], _ => by simp
 | x :: l, h => by
   have ih := run_mapM_pure f g w l (fun y hy => h y (by simp [hy]))
   simp only [List.mapM_cons, Sem.run_bind, h x (by simp), Result.andThen_ok, ih, Sem.run_pure, List.map_cons]
theorem run_mapM_array {α β : Type} (f : α -> Sem β) (g : α -> β) (w : World) (l : Array α) (h : ∀ x ∈ l, (f x).run P w = .ok (g x) w) : (l.mapM f).run P w = .ok (l.map g) w := by
 rw [Array.mapM_eq_mapM_toList, Sem.run_map, run_mapM_pure f g w l.toList (fun x hx => h x (by simpa using hx))]
 simp only [Result.andThen_ok]
 congr 1
 apply Array.ext'
 simp
theorem zero_of {t : TypeId} {y : Ty} {i : TypeInfo} {d : TypeDesc} (hi : TyIs P t y i d) (h : y.zero.length = y.size) : ∃ z, i.zero = some z /\ RepL w A bl H (y.zero.map .c) z.cells.toList /\ z.cells.size = y.size := by
 obtain ⟨z, l, h1, h2, h3⟩ := hi.zero h
 exact ⟨z, h1, repL_zeroF h2 h3, by have := cOfL_len h2; have := h3.length; simp at *; omega⟩
theorem op_build {T : TypeId -> Option Ty} (hT : ∀ t y, T t = some y -> tyOf P t = some y) {t : TypeId} {y : Ty} (ht : T t = some y) {fs : List (Nat × Nat × Bool)} (hk : y.k = .struct fs) {l : List (Nat × V)} {ul : Array (Nat × Value)} (hl : l.length = ul.size)
   (hr : ∀ (j : Nat) (x : Nat × V) (u : Nat × Value), l[j]? = some x -> ul[j]? = some u -> x.1 = u.1 /\ RepV w A bl H x.2 u.2) {out : List V}
   (h : fillP (placeOf fs) (y.zero.map .c) l = some out) : ∃ r, (Instr.build t ul).run P w = .ok r w /\ RepV w A bl H (.agg out) r := by
 obtain ⟨i, d, hi⟩ := get_wf hT ht
 obtain ⟨la, rfl, hfs⟩ := kOf_struct (hk.symm.trans hi.k)
 obtain ⟨z, hz1, hz2, hz3⟩ := zero_of (w := w) (A := A) (bl := bl) (H := H) hi (hi.zero' (fun n e he => by cases he))
 have hfl := hi.flds
 simp only [fieldsOk, List.all_eq_true, Bool.and_eq_true] at hfl
 have hpl : (la.mapM fun f => do pure (f.offset, <- sizeOf f.type) : Sem (Array (Nat × Nat))).run P w = .ok (la.map fun f => (f.offset, sizeAt P f.type)) w :=
   run_mapM_array _ _ w la (fun f hf => by
     obtain ⟨q1, _⟩ := hfl f (by simpa using hf)
     obtain ⟨gi, hgi⟩ := Option.isSome_iff_exists.1 q1
     simp [run_sizeAt hgi])
 have hpe : placeOf fs = fun i => (la.map fun f => (f.offset, sizeAt P f.type))[i]? := by
   funext i
   unfold placeOf
   rw [hfs]
   simp only [List.getElem?_map, Array.getElem?_toList, Array.getElem?_map]
   cases la[i]? <;> rfl
 rw [hpe] at h
 obtain ⟨uout, g1, g2⟩ := fill_run h (ul := ul.toList) (by simpa using hl) (fun j x u hj hu => hr j x u hj (by simpa using hu)) hz2
 refine ⟨.agg uout, ?_, .agg _ _ (by simpa using g2.1) (fun j x u hj hu => g2.2 j x u hj (by simpa using hu))⟩
 unfold Instr.build
 simp only [Sem.run_bind, run_zeroValue hi.info hz1, Result.andThen_ok, run_underlying hi.und, hpl, g1, Sem.run_pure]
theorem chunk_spec {sz : Nat} : ∀ (n : Nat) (l : List C), l.length = n * sz -> (chunk sz n l).length = n /\ (∀ cs ∈ chunk sz n l, cs.length = sz) /\ ∀ (k j : Nat) (cs : List C) (x : C), (chunk sz n l)[k]? = some cs -> cs[j]? = some x -> l[k * sz + j]? = some x
 | 0, l, _ => ⟨rfl, by simp [chunk], by simp [chunk]⟩
 | n + 1, l, h => by
   rw [Nat.add_mul, Nat.one_mul] at h
   obtain ⟨h1, h2, h3⟩ := chunk_spec (sz := sz) n (l.drop sz) (by simp; omega)
   refine ⟨by simp [chunk, h1], fun cs hcs => ?_, fun k j cs x hk hj => ?_⟩
   · simp only [chunk, List.mem_cons] at hcs
     rcases hcs with rfl | h
     · simp; omega
     · exact h2 cs h
   · cases k with
     | zero =>
       simp only [chunk, List.getElem?_cons_zero, Option.some.injEq] at hk
       subst hk
       rw [List.getElem?_take] at hj
       split at hj <;> simp_all
     | succ k =>
       simp only [chunk, List.getElem?_cons_succ] at hk
       have := h3 k j cs x hk hj
       rw [List.getElem?_drop] at this
       rw [<- this]; congr 1
       rw [Nat.add_mul]; omega
theorem pureL_map : ∀ {l : List V} {m : List C}, pureL l = some m -> l = m.map .c
 | [], m, h => by simp [pureL] at h; subst h; rfl
 | x :: l, m, h => by
   cases x <;> simp only [pureL, reduceCtorEq] at h
   split at h <;> simp only [Option.some.injEq, reduceCtorEq] at h
   rename_i m' hm'
   subst h
   rw [pureL_map hm']; rfl
theorem fillP_len {place : Nat -> Option (Nat × Nat)} : ∀ {l : List (Nat × V)} {cells out : List V}, fillP place cells l = some out -> out.length = cells.length
 | [], cells, out, h => by simp only [fillP, Option.some.injEq] at h; rw [h]
 | (i, v) :: l, cells, out, h => by
   simp only [fillP] at h
   split at h
   case h_2 => simp at h
   split at h
   case isFalse => simp at h
   rename_i hc
   rw [fillP_len h, splice_len (by omega)]
theorem flatten_rep {n : Nat} {m : List C} {us : List Value} (h : RepL w A bl H (m.map .c) us) : RepL w A bl H ((List.replicate n m).flatten.map .c) ((List.replicate n us).flatten) := by
 induction n with
 | zero => exact ⟨by simp, fun j x u hj => by simp at hj⟩
 | succ n ih =>
   simp only [List.replicate_succ, List.flatten_cons, List.map_append]
   refine ⟨by rw [List.length_append, List.length_append, h.1, ih.1], fun j x u hj hu => ?_⟩
   rcases Nat.lt_or_ge j m.length with hlt | hge
   · rw [List.getElem?_append_left (by simpa using hlt)] at hj
     rw [List.getElem?_append_left (by have := h.1; simp at this; omega)] at hu
     exact h.2 j x u hj hu
   · rw [List.getElem?_append_right (by simpa using hge)] at hj
     rw [List.getElem?_append_right (by have := h.1; simp at this; omega)] at hu
     have e : us.length = m.length := by have := h.1; simp at this; omega
     rw [e] at hu
     simp only [List.length_map] at hj
     exact ih.2 _ x u hj hu
theorem op_buildSlice0 {T : TypeId -> Option Ty} (hT : ∀ t y, T t = some y -> tyOf P t = some y) {t e : TypeId} {y ye : Ty} (ht : T t = some y) (hk : y.k = .slice e) (he : T e = some ye) {n : Nat} (hn : n * ye.size <= 65536) (hz : ye.zero.length = ye.size) {l : List (Nat × V)} {ul : Array (Nat × Value)} (hl : l.length = ul.size)
   (hr : ∀ (j : Nat) (x : Nat × V) (u : Nat × Value), l[j]? = some x -> ul[j]? = some u -> x.1 = u.1 /\ RepV w A bl H x.2 u.2) {out : List V} {cs : List C}
   (h : fillP (fun i => some (i * ye.size, ye.size)) ((List.replicate n ye.zero).flatten.map .c) l = some out) (hp : pureL out = some cs) :
   ∃ uout : Array Value, (Instr.buildSlice t n ul).run P w = .ok (.slice (some ⟨w.heap.size, 0, none⟩) n n) (w.alloc (.cells uout e)) /\ uout.size = n * ye.size /\ cs.length = n * ye.size ∧
     ∀ (j : Nat) (x : C), cs[j]? = some x -> ∃ u, uout[j]? = some u /\ RepC w A x u := by
 obtain ⟨i, d, hi⟩ := get_wf hT ht
 have hd : d = .slice e := kOf_slice (hk.symm.trans hi.k)
 subst hd
 obtain ⟨ei, ed, hei⟩ := get_wf hT he
 obtain ⟨z, hz1, hz2, hz3⟩ := zero_of (w := w) (A := A) (bl := bl) (H := H) hei hz
 have hrep := flatten_rep (n := n) hz2
 -- the zero cells, as the machine lays them
 have hzero : ∀ z' : Array Value, (n * ye.size = 0 \/ z' = z.cells) -> ((Array.range (n * ye.size)).map (z'[· % z'.size]!)).toList = (List.replicate n z.cells.toList).flatten := by
   intro z' hz'
   apply List.ext_getElem?
   intro j
   by_cases hj : j < n * ye.size
   · have hz' : z' = z.cells := hz'.resolve_left (by omega)
     subst hz'
     simp only [Array.toList_map, List.getElem?_map]
     rw [show (Array.range (n * ye.size)).toList[j]? = some j by simp [hj]]
     simp only [Option.map_some]
     have hs : 0 < ye.size := by rcases Nat.eq_zero_or_pos ye.size with h0 | h0; (rw [h0] at hj; omega); exact h0
     have key : ∀ (n j : Nat), j < n * ye.size -> (List.replicate n z.cells.toList).flatten[j]? = some z.cells[j % z.cells.size]! := by
       intro n
       induction n with
       | zero => intro j h; omega
       | succ n ih =>
         intro j h
         rw [Nat.add_mul, Nat.one_mul] at h
         simp only [List.replicate_succ, List.flatten_cons]
         rcases Nat.lt_or_ge j ye.size with hlt | hge
         · rw [List.getElem?_append_left (by simp; omega)]
           rw [Nat.mod_eq_of_lt (by omega)]
           rw [getElem!_pos z.cells j (by omega)]
           simp
         · rw [List.getElem?_append_right (by simp; omega), Array.length_toList, ih _ (by omega), hz3]
           congr 2
           rw [<- Nat.mod_eq_sub_mod hge]
     rw [key n j hj]
   · rw [List.getElem?_eq_none (by simp; omega), List.getElem?_eq_none]
     simp [hz3]; omega
 have hcs := pureL_map hp
 have hlen := fillP_len h
 have hcl : cs.length = n * ye.size := by
   have : out.length = n * ye.size := by rw [hlen]; simp [hz]
   rw [hcs] at this; simpa using this
 -- the zero row, whichever way
 obtain ⟨z', hz', hz0, hz9⟩ : ∃ z' : Array Value, (n * ye.size = 0 \/ z' = z.cells) /\ (n * ei.size = 0 -> z' = #[]) /\ (¬ n * ei.size = 0 -> z' = z.cells) := by
   by_cases h0 : n * ei.size = 0
   · exact ⟨#[], .inl (by rw [hei.size]; exact h0), fun _ => rfl, fun h => absurd h0 h⟩
   · exact ⟨z.cells, .inr rfl, fun h => absurd h h0, fun _ => rfl⟩
 rw [<- hzero z' hz'] at hrep
 obtain ⟨uout, g1, g2⟩ := fill_run h (ul := ul.toList) (by simpa using hl) (fun j x u hj hu => hr j x u hj (by simpa using hu)) hrep
 have hbig : ¬ (n * ei.size > 2 ^ 24) := by rw [<- hei.size]; omega
 have hul : cs.length = uout.size := by have := g2.1; rw [hcs] at this; simpa using this
 refine ⟨uout, ?_, by omega, hcl, fun j x hx => ?_⟩
 · unfold Instr.buildSlice
   simp only [Sem.run_bind, run_underlying hi.und, Result.andThen_ok, run_sizeOf hei.info]
   rw [if_neg hbig]
   by_cases h0 : n * ei.size = 0
   · rw [if_pos h0]
     rw [hz0 h0] at g1
     simp only [Sem.run_bind, Sem.run_pure, Result.andThen_ok]
     rw [<- hei.size, g1]
     simp [newRow]
   · rw [if_neg h0]
     rw [hz9 h0] at g1
     simp only [Sem.run_bind, Sem.run_pure, Result.andThen_ok, run_zeroValue hei.info hz1]
     rw [<- hei.size, g1]
     simp [newRow]
 · have hlt := (List.getElem?_eq_some_iff.1 hx).1
   refine ⟨uout[j], by simp [show j < uout.size by omega], ?_⟩
   have := g2.2 j (.c x) (uout[j]) (by rw [hcs]; simp [hx]) (by simp [show j < uout.size by omega])
   cases this with | c _ _ h => exact h
theorem op_buildSlice {T : TypeId -> Option Ty} (hT : ∀ t y, T t = some y -> tyOf P t = some y) (hH : RepH w A bl H) {t e : TypeId} {y ye : Ty} (ht : T t = some y) (hk : y.k = .slice e) (he : T e = some ye) {n : Nat} (hn : n * ye.size <= 65536) (hz : ye.zero.length = ye.size) {l : List (Nat × V)} {ul : Array (Nat × Value)} (hl : l.length = ul.size)
   (hr : ∀ (j : Nat) (x : Nat × V) (u : Nat × Value), l[j]? = some x -> ul[j]? = some u -> x.1 = u.1 /\ RepV w A bl H x.2 u.2) {out : List V} {cs : List C}
   (h : fillP (fun i => some (i * ye.size, ye.size)) ((List.replicate n ye.zero).flatten.map .c) l = some out) (hp : pureL out = some cs) :
   ∃ r w', (Instr.buildSlice t n ul).run P w = .ok r w' /\ ∃ A', RepV w' A' bl H (.c (.sl ye.size (some false) true (chunk ye.size n cs))) r /\ RepH w' A' bl H /\ Le w A bl H w' A' bl H /\ Evo w A (Liv bl H) w' A' (Liv bl H) := by
 obtain ⟨uout, hrun, hus, hcl, hcs⟩ := op_buildSlice0 hT ht hk he hn hz hl hr h hp
 obtain ⟨hg1, hg2⟩ := grow hH (Grow.alloc w (.cells uout e)) (N := fun b => b = w.heap.size) (fun b hb => by simp; omega)
 obtain ⟨k1, k2, k3⟩ := chunk_spec n cs hcl
 refine ⟨_, _, hrun, _, ?_, hg1, hg2, (Grow.alloc w _).evo (fun b hb => .inl hb) (fun b hb => hb.elim .inl (fun h => .inr (.inr (by omega))))⟩
 have e0 : n = (chunk ye.size n cs).length := k1.symm
 have hvs : RepC (w.alloc (.cells uout e)) (fun b => A b \/ b = w.heap.size) (.sl ye.size (some false) true (chunk ye.size n cs)) (.slice (some ⟨w.heap.size, 0, none⟩) (chunk ye.size n cs).length n) := by
   refine .sl _ _ _ _ _ _ (fun k j => uout.getD (k * ye.size + j) undef) (fun _ => rfl) (by simp) (fun _ => e0) (by omega) k2 ?_ ?_
   · intro k j c x hk hj
     obtain ⟨u, hu, _⟩ := hcs _ x (k3 k j c x hk hj)
     refine ⟨.inr rfl, ?_⟩
     rw [cell_of_heap (heap_alloc_new w _)]
     simp only [Nat.zero_add]
     have hlt := (Array.getElem?_eq_some_iff.1 hu).1
     simp [Array.getD, hlt]
   · intro k j c x hk hj
     obtain ⟨u, hu, hx⟩ := hcs _ x (k3 k j c x hk hj)
     obtain ⟨hlt, he⟩ := Array.getElem?_eq_some_iff.1 hu
     have : uout.getD (k * ye.size + j) undef = u := by simp [Array.getD, hlt, he]
     rw [this]
     exact hx.mono hg2.C hg2.A
 rw [<- e0] at hvs
 exact .c _ _ hvs
theorem op_buildSliceOwn {T : TypeId -> Option Ty} (hT : ∀ t y, T t = some y -> tyOf P t = some y) (hH : RepH w A bl H) {t e : TypeId} {y ye : Ty} (ht : T t = some y) (hk : y.k = .slice e) (he : T e = some ye) {n : Nat} (hn : n * ye.size <= 65536) (hz : ye.zero.length = ye.size) {l : List (Nat × V)} {ul : Array (Nat × Value)} (hl : l.length = ul.size)
   (hr : ∀ (j : Nat) (x : Nat × V) (u : Nat × Value), l[j]? = some x -> ul[j]? = some u -> x.1 = u.1 /\ RepV w A bl H x.2 u.2) {out : List V} {cs : List C}
   (h : fillP (fun i => some (i * ye.size, ye.size)) ((List.replicate n ye.zero).flatten.map .c) l = some out) (hp : pureL out = some cs) :
   ∃ r w', (Instr.buildSlice t n ul).run P w = .ok r w' /\ ∃ bl', RepV w' A bl' (H ++ [.mem ye.size 0 (chunk ye.size n cs)]) (.buf H.length 0 0 n) r /\ RepH w' A bl' (H ++ [.mem ye.size 0 (chunk ye.size n cs)]) /\ Le w A bl H w' A bl' (H ++ [.mem ye.size 0 (chunk ye.size n cs)]) /\ Evo w A (Liv bl H) w' A (Liv bl' (H ++ [.mem ye.size 0 (chunk ye.size n cs)])) := by
 obtain ⟨uout, hrun, hus, hcl, hcs⟩ := op_buildSlice0 hT ht hk he hn hz hl hr h hp
 obtain ⟨k1, k2, k3⟩ := chunk_spec n cs hcl
 have hnew := heap_alloc_new w (.cells uout e)
 obtain ⟨bl', b1, b2, b3, b4⟩ := push_mem hH (z := ye.size) (xs := chunk ye.size n cs) (Grow.alloc w _) (by simp) hnew k2 (by rw [k1, hus]; exact Nat.le_refl _) (fun k j c x hk hj => hcs _ x (k3 k j c x hk hj))
 refine ⟨_, _, hrun, bl', ?_, b2, b3, b4⟩
 refine .buf _ _ _ _ _ _ _ (by simp) (fun z e xs _ => Nat.zero_le _) fun z' xs' h' => ?_
 simp at h'
 obtain ⟨rfl, rfl⟩ := h'
 refine ⟨by omega, rfl, ⟨Nat.le_refl _, fun _ a0 h => ?_, fun h => by simp at h⟩, fun hc => ⟨w.heap.size, 0, uout.size, b1, by simp, ?_, by rw [hus]; simp⟩⟩
 · simp only [Option.some.injEq] at h; subst h; rfl
 · simp only [rowOf, hnew]
theorem rep_move (hH : RepH w A bl H) {i0 z e : Nat} {xs xs' : List (List C)} (hi : H[i0]? = some (.mem z e xs)) {x : Option (Nat × Nat)}
   (hx : ∀ b d, x = some (b, d) -> (∃ d0, bl i0 = some (b, d0)) \/ (w.heap.size <= b /\ b < w'.heap.size)) (hs : w.heap.size <= w'.heap.size) (hos : w'.os = w.os) (htp : w'.tape = w.tape) (hou : w'.output = w.output)
   (hk : ∀ b, b < w.heap.size -> (∀ d, bl i0 ≠ some (b, d)) -> w'.heap[b]? = w.heap[b]?)
   (ho : Le w A bl H w' A (upd bl i0 x) (H.set i0 (.mem z (e + 1) xs')) -> RepO w' A (upd bl i0 x) (H.set i0 (.mem z (e + 1) xs')) i0 (.mem z (e + 1) xs')) :
   RepH w' A (upd bl i0 x) (H.set i0 (.mem z (e + 1) xs')) /\ Le w A bl H w' A (upd bl i0 x) (H.set i0 (.mem z (e + 1) xs')) /\ Evo w A (Liv bl H) w' A (Liv (upd bl i0 x) (H.set i0 (.mem z (e + 1) xs'))) := by
 have hilt : i0 < H.length := (List.getElem?_eq_some_iff.1 hi).1
 have hal : alive H i0 := ⟨_, hi, rfl⟩
 have far : ∀ {i b d}, i ≠ i0 -> alive H i -> bl i = some (b, d) -> w'.heap[b]? = w.heap[b]? := fun {i b d} hne ha hb =>
   hk b (hH.lt i b d ha hb).1 fun d' hd => hH.inj i i0 b d d' hne ha hal hb hd
 have old : ∀ {i}, alive (H.set i0 (.mem z (e + 1) xs')) i -> alive H i := by
   intro i ha
   rcases Nat.decEq i0 i with hne | rfl
   · obtain ⟨o2, h1, h2⟩ := ha
     rw [List.getElem?_set_ne hne] at h1
     exact ⟨o2, h1, h2⟩
   · exact hal
 have hle : Le w A bl H w' A (upd bl i0 x) (H.set i0 (.mem z (e + 1) xs')) := by
   refine ⟨fun b hb => hk b (hH.alt b hb) fun d hd => (hH.lt i0 b d hal hd).2 hb, fun b hb => hb, by simp, fun i z2 e2 xs2 hlt h => ?_, fun i cs' hlt h => ?_, fun i r s hlt h => ?_, rfl, fun i z2 e2 xs1 xs2 b d n h0 h2 hb hr => ?_⟩
   · rcases Nat.decEq i0 i with hne | rfl
     · rw [List.getElem?_set_ne hne] at h
       exact ⟨e2, xs2, h, Nat.le_refl _, fun _ => ⟨rfl, upd_other (Ne.symm hne)⟩⟩
     · rw [List.getElem?_set_self hilt] at h
       simp only [Option.some.injEq, O.mem.injEq] at h
       obtain ⟨rfl, rfl, rfl⟩ := h
       exact ⟨e, xs, hi, by omega, fun he => by omega⟩
   · rcases Nat.decEq i0 i with hne | rfl
     · rw [List.getElem?_set_ne hne] at h
       exact ⟨cs', h, upd_other (Ne.symm hne)⟩
     · rw [List.getElem?_set_self hilt] at h
       simp at h
   · rcases Nat.decEq i0 i with hne | rfl
     · rw [List.getElem?_set_ne hne] at h
       exact ⟨r, s, h, upd_other (Ne.symm hne)⟩
     · rw [List.getElem?_set_self hilt] at h
       simp at h
   · rcases Nat.decEq i0 i with hne | rfl
     · rw [rowOf_keep (far (Ne.symm hne) ⟨_, h0, rfl⟩ hb)]; exact hr
     · rw [hi] at h0
       rw [List.getElem?_set_self hilt] at h2
       simp only [Option.some.injEq, O.mem.injEq] at h0 h2
       omega
 have hard : Ard w w' A bl (upd bl i0 x) := ⟨rfl, fun b hb => Nat.lt_of_lt_of_le (hH.alt b hb) hs, fun c hc => (hH.xlt c hc).2, fun c hc => hk c (hH.xlt c hc).1 fun d hd => hH.xinj i0 c d hal hd hc, hs, hos, htp, hou⟩
 refine ⟨⟨fun i o2 h => ?_, fun i j b d d' hij ha ha' hb hb' => ?_, fun i b d ha hb => ?_, hard.alt, fun b hb => ⟨Nat.lt_of_lt_of_le (hH.xlt b hb).1 hs, (hH.xlt b hb).2⟩, fun i b d ha hb hX => ?_, hH.base.mono hle.A hle.C⟩, hle, ?_⟩
 · rcases Nat.decEq i0 i with hne | rfl
   · rw [List.getElem?_set_ne hne] at h
     cases hlv : o2.live with
     | false => cases o2 <;> simp [O.live] at hlv; trivial
     | true => exact (hH.obj i o2 h).mono hle hard (upd_other (Ne.symm hne)) (fun b d hb => far (Ne.symm hne) ⟨o2, h, hlv⟩ hb) (fun b d hb => (hH.lt i b d ⟨o2, h, hlv⟩ hb).2)
   · rw [List.getElem?_set_self hilt] at h
     simp only [Option.some.injEq] at h
     subst h; exact ho hle
 · have clash : ∀ {i j b d d'}, i ≠ j -> i ≠ i0 -> j = i0 -> alive H i -> bl i = some (b, d) -> upd bl i0 x j = some (b, d') -> False := by
     intro i j b d d' hij hne hj ha2 hb2 hb3
     rw [hj, upd_same] at hb3
     rcases hx b d' hb3 with ⟨d0, h0⟩ | ⟨h0, _⟩
     · exact hH.inj i i0 b d d0 hne ha2 hal hb2 h0
     · have := (hH.lt i b d ha2 hb2).1; omega
   rcases Nat.decEq i0 i with hne | rfl
   · rw [upd_other (Ne.symm hne)] at hb
     rcases Nat.decEq i0 j with hne' | rfl
     · rw [upd_other (Ne.symm hne')] at hb'
       exact hH.inj i j b d d' hij (old ha) (old ha') hb hb'
     · exact clash hij (Ne.symm hne) rfl (old ha) hb hb'
   · have hne' : j ≠ i0 := fun h => hij h.symm
     rw [upd_other hne'] at hb'
     exact clash hne' hne' rfl (old ha') hb' hb
 · rcases Nat.decEq i0 i with hne | rfl
   · rw [upd_other (Ne.symm hne)] at hb
     have := hH.lt i b d (old ha) hb
     exact ⟨Nat.lt_of_lt_of_le this.1 hs, this.2⟩
   · rw [upd_same] at hb
     rcases hx b d hb with ⟨d0, h0⟩ | ⟨h0, h1⟩
     · have := hH.lt i0 b d0 hal h0
       exact ⟨Nat.lt_of_lt_of_le this.1 hs, this.2⟩
     · exact ⟨h1, fun hA => by have := hH.alt b hA; omega⟩
 · have hX : bl.X b := hX
   rcases Nat.decEq i0 i with hne | rfl
   · rw [upd_other (Ne.symm hne)] at hb
     exact hH.xinj i b d (old ha) hb hX
   · rw [upd_same] at hb
     rcases hx b d hb with ⟨d0, h0⟩ | ⟨h0, h1⟩
     · exact hH.xinj i0 b d0 hal h0 hX
     · have := (hH.xlt b hX).1; omega
 · refine ⟨hos, htp, hou, hs, fun b hb hn => hk b hb fun d hd => hn (.inl ⟨i0, d, hal, hd⟩), fun b hb => ?_, fun b hb => .inl hb⟩
   rcases hb with ⟨i, d, ha, hb⟩ | hb
   · rcases Nat.decEq i0 i with hne | rfl
     · rw [upd_other (Ne.symm hne)] at hb
       exact .inl (.inl ⟨i, d, old ha, hb⟩)
     · rw [upd_same] at hb
       rcases hx b d hb with ⟨d0, h0⟩ | ⟨h0, h1⟩
       · exact .inl (.inl ⟨i0, d0, hal, h0⟩)
       · exact .inr h0
   · exact .inl (.inr hb)
theorem setCells_spec {g : Nat} {t : TypeId} : ∀ (vs : List Value) (o : Nat) (w : World) (cur : Array Value), w.heap[g]? = some (.cells cur t (0, 0)) -> o + vs.length <= cur.size →
   (w.setCells g o vs).heap[g]? = some (.cells (splice cur.toList o vs).toArray t (0, 0)) /\ (∀ b, b ≠ g -> (w.setCells g o vs).heap[b]? = w.heap[b]?) /\ (w.setCells g o vs).os = w.os /\ (w.setCells g o vs).tape = w.tape /\ (w.setCells g o vs).output = w.output /\ (w.setCells g o vs).heap.size = w.heap.size
 | [], o, w, cur, hw, h => ⟨by simpa [World.setCells, splice] using hw, fun _ _ => rfl, rfl, rfl, rfl, rfl⟩
 | v :: vs, o, w, cur, hw, h => by
   simp only [List.length_cons] at h
   have e := setCell_eq_setRow w g o cur t (0, 0) v hw
   have hw1 := setRow_heap w g cur (cur.setIfInBounds o v) t (0, 0) hw
   obtain ⟨h1, h2, h3, h4, h5, h6⟩ := setCells_spec vs (o + 1) (w.setRow g (cur.setIfInBounds o v)) (cur.setIfInBounds o v) hw1 (by simp; omega)
   simp only [World.setCells, e]
   refine ⟨?_, fun b hb => (h2 b hb).trans (Go.setRow_other w g b _ hb), h3, h4, h5, by rw [h6]; simp⟩
   rw [h1]
   congr 3
   apply List.ext_getElem?
   intro j
   simp only [Array.toList_setIfInBounds]
   have hlt : o < cur.toList.length := by simp; omega
   rw [splice_get (by simp; omega), splice_get (by simp; omega)]
   simp only [List.length_cons]
   by_cases hj : j = o
   · subst hj
     rw [if_neg (by omega), if_pos (by omega), List.getElem?_set_self hlt]; simp
   · rw [List.getElem?_set_ne (Ne.symm hj)]
     by_cases h2 : o + 1 <= j /\ j < o + 1 + vs.length
     · rw [if_pos h2, if_pos (by omega)]
       have : j - o = (j - (o + 1)) + 1 := by omega
       rw [this]; simp
     · rw [if_neg h2, if_neg (by omega)]
structure SrcIs (P : Program) (w : World) (A : Nat -> Prop) (sz : Nat) (tx : TypeId) (x : Value) (ys : List (List C)) (news : List Value) : Prop where
 src : Src P sz tx x ys.length news w
 len : ∀ cs ∈ ys, cs.length = sz
 rep : ∀ (k j : Nat) (cs : List C) (c : C), ys[k]? = some cs -> cs[j]? = some c -> ∃ u, news[k * sz + j]? = some u /\ RepC w A c u
theorem repC_one {c : C} {u : Value} (h : RepC w A c u) : u.oneCell' = true := by cases h <;> rfl
theorem row_cells {ys : List (List C)} {sz : Nat} (hl : ∀ cs ∈ ys, cs.length = sz) {f : Nat -> Option Value} (h : ∀ (k j : Nat) (cs : List C) (c : C), ys[k]? = some cs -> cs[j]? = some c -> ∃ u, f (k * sz + j) = some u /\ RepC w A c u) :
   ∃ news : List Value, news.length = ys.length * sz /\ (∀ (j : Nat) (u : Value), news[j]? = some u -> f j = some u) /\ (∀ u ∈ news, u.oneCell' = true) /\ ∀ (k j : Nat) (cs : List C) (c : C), ys[k]? = some cs -> cs[j]? = some c -> ∃ u, news[k * sz + j]? = some u /\ RepC w A c u := by
 obtain ⟨news, h1, h2⟩ := list_of (n := ys.length * sz) (Q := fun j u => f j = some u /\ ∃ c, RepC w A c u) (fun j hj => by
   have hs : 0 < sz := by rcases Nat.eq_zero_or_pos sz with h0 | h0; (rw [h0] at hj; omega); exact h0
   have hk : j / sz < ys.length := Nat.div_lt_of_lt_mul (by rw [Nat.mul_comm]; exact hj)
   have hm : j % sz < sz := Nat.mod_lt _ hs
   have hcl := hl ys[j / sz] (List.getElem_mem hk)
   obtain ⟨u, q1, q2⟩ := h (j / sz) (j % sz) ys[j / sz] (ys[j / sz])[j % sz] (by simp [hk]) (by simp [hcl, hm])
   have e : j / sz * sz + j % sz = j := by rw [Nat.mul_comm]; exact Nat.div_add_mod j sz
   exact ⟨u, by rw [<- e]; exact q1, _, q2⟩)
 refine ⟨news, h1, fun j u hj => (h2 j u hj).1, fun u hu => ?_, fun k j cs c hk hj => ?_⟩
 · obtain ⟨j, hj, rfl⟩ := List.mem_iff_getElem.1 hu
   obtain ⟨_, c, hc⟩ := h2 j news[j] (by simp [hj])
   exact repC_one hc
 · obtain ⟨u, q1, q2⟩ := h k j cs c hk hj
   have hk' := (List.getElem?_eq_some_iff.1 hk).1
   have hj' : j < sz := hl cs (List.mem_of_getElem? hk) ▸ (List.getElem?_eq_some_iff.1 hj).1
   have : (k + 1) * sz <= ys.length * sz := Nat.mul_le_mul_right _ hk'
   rw [Nat.add_mul] at this
   have hlt : k * sz + j < news.length := by omega
   refine ⟨news[k * sz + j], by simp [hlt], ?_⟩
   have := (h2 (k * sz + j) news[k * sz + j] (by simp [hlt])).1
   rw [q1] at this
   simp only [Option.some.injEq] at this
   rw [<- this]; exact q2
theorem srcIs_of {tx : TypeId} {sz : Nat} (hk : (∃ e', P.underlying tx = some (.slice e')) \/ P.underlying tx = some .string) {b : Option Addr} {cap : Nat} {ys : List (List C)} (hl : ∀ cs ∈ ys, cs.length = sz) (hb : ys.length * sz ≠ 0 -> ∃ a, b = some a /\ a.spot = none ∧
     ∀ (k j : Nat) (cs : List C) (c : C), ys[k]? = some cs -> cs[j]? = some c -> ∃ u, w.cell? ⟨a.block, a.off + (k * sz + j), none⟩ = some u /\ RepC w A c u) (hz : b = none -> ys.length = 0) :
   ∃ news, SrcIs P w A sz tx (.slice b ys.length cap) ys news := by
 by_cases h0 : ys.length * sz = 0
 · have hno : ∀ (k j : Nat) (cs : List C) (c : C), ys[k]? = some cs -> cs[j]? = some c -> False := by
     intro k j cs c hk hj
     have hk' := (List.getElem?_eq_some_iff.1 hk).1
     have hj' : j < sz := hl cs (List.mem_of_getElem? hk) ▸ (List.getElem?_eq_some_iff.1 hj).1
     rcases Nat.mul_eq_zero.1 h0 with h | h <;> omega
   refine ⟨[], ⟨⟨hk, fun _ => rfl, ?_, ?_, by simp [h0], fun u hu => by cases hu⟩, hl, fun k j cs c hk hj => (hno k j cs c hk hj).elim⟩⟩
   all_goals cases b with
     | none => simp [Builtin.firstCells]
     | some a => simp [Builtin.firstCells, h0, loadCells, loadCellsFrom]
 · obtain ⟨a, rfl, ha, hc⟩ := hb h0
   obtain ⟨news, n1, n2, n3, n4⟩ := row_cells (w := w) (A := A) hl (f := fun j => w.cell? ⟨a.block, a.off + j, none⟩) hc
   have hcell : ∀ (j : Nat) (u : Value), news[j]? = some u -> w.cell? (a.add j) = some u := fun j u hj => by rw [add_spot ha]; exact n2 j u hj
   exact ⟨news, ⟨⟨hk, fun _ => rfl, run_firstCells_some w sz ys.length a ys.length cap news n1 hcell, run_firstCells_some w.drew sz ys.length a ys.length cap news n1 (by simpa using hcell), n1, n3⟩, hl, n4⟩⟩
theorem srcOf_is (hH : RepH w A bl H) {tx : TypeId} {sz : Nat} (hk : (∃ e', P.underlying tx = some (.slice e')) \/ P.underlying tx = some .string) {s : V} {ys : List (List C)} (h : srcOf H sz s = some ys) {x : Value} (hx : RepV w A bl H s x) :
   ∃ news, SrcIs P w A sz tx x ys news := by
 unfold srcOf at h
 split at h
 · rename_i z nl ti xs
   have hys : (z = sz /\ ys = xs) \/ (xs = [] /\ ys = []) := by
     split at h
     · simp only [Option.some.injEq] at h; exact .inl ⟨‹_›, h.symm⟩
     · split at h <;> simp at h
       exact .inr ⟨rfl, h⟩
   rcases hx.sl_inv with ⟨rfl, rfl, hnl⟩ | ⟨a, cap, vs, rfl, g1, g2, g3, g4, g5, g6, g7⟩
   · have : ys = [] := by rcases hys with ⟨_, h⟩ | ⟨_, h⟩ <;> exact h
     subst this
     exact srcIs_of (ys := []) (b := none) (cap := 0) hk (by simp) (by simp) (fun _ => rfl)
   · rcases hys with ⟨rfl, rfl⟩ | ⟨rfl, rfl⟩
     · refine srcIs_of hk g5 (fun h0 => ⟨a, rfl, g1 (fun hc0 => h0 (by rw [show ys.length = 0 by omega]; simp)), fun k j cs c hk hj => ?_⟩) (by simp)
       exact ⟨_, by rw [<- Nat.add_assoc]; exact (g6 k j cs c hk hj).2, g7 k j cs c hk hj⟩
     · exact srcIs_of (ys := []) (b := some a) (cap := cap) hk (by simp) (by simp) (by simp)
 · rename_i s
   split at h <;> simp only [Option.some.injEq, reduceCtorEq] at h
   rename_i h1
   subst h1
   obtain rfl := hx.str_inv
   subst h
   have hsz : (ByteArray.mk s.toArray).size = s.length := by simp [ByteArray.size]
   have hs : Src P 1 tx (.string ⟨s.toArray⟩) s.length (byteCells ⟨s.toArray⟩) w := by
     have hf := fun w' => firstCells_string (P := P) ⟨s.toArray⟩ w'
     rw [hsz] at hf
     exact ⟨hk, fun _ => by simp [Builtin.lenOf, hsz], hf w, hf w.drew, by rw [byteCells_length, hsz, Nat.mul_one], fun u hu => by
       obtain ⟨_, _, rfl⟩ := List.mem_map.1 hu
       rfl⟩
   refine ⟨byteCells ⟨s.toArray⟩, ⟨by simpa using hs, by simp, fun k j cs c hk hj => ?_⟩⟩
   simp only [List.getElem?_map, Option.map_eq_some_iff] at hk
   obtain ⟨b, hb, rfl⟩ := hk
   cases j with
   | succ j => simp at hj
   | zero =>
     simp at hj
     subst hj
     exact ⟨.int .u8 b.toNat, by simp [byteCells, hb], .int _ _⟩
 · rename_i i ep off len
   split at h
   case h_2 => simp at h
   rename_i z e xs hmem
   split at h <;> simp only [Option.some.injEq, reduceCtorEq] at h
   rename_i hc
   obtain ⟨rfl, rfl⟩ := hc
   subst h
   obtain ⟨b, l, cap, rfl, g1, g2, g3⟩ := hx.buf_inv
   obtain ⟨k1, hl0, ⟨k3, k5, k6⟩, k4⟩ := g3 z xs hmem
   subst hl0
   obtain ⟨q1, q2, q3⟩ := hH.obj _ _ hmem
   have hlen : ((xs.drop off).take l).length = l := by simp; omega
   have at_ : ∀ (k : Nat) (cs : List C), ((xs.drop off).take l)[k]? = some cs -> xs[off + k]? = some cs := by
     intro k cs hk
     rw [List.getElem?_take, List.getElem?_drop] at hk
     split at hk <;> simp_all
   have := srcIs_of (P := P) (w := w) (A := A) (tx := tx) (sz := z) hk (b := b) (cap := cap) (ys := (xs.drop off).take l) (fun cs hcs => q1 cs (List.mem_of_mem_drop (List.mem_of_mem_take hcs))) (fun h0 => by
     have hc : cap ≠ 0 := by
       intro hc
       have : l = 0 := by omega
       rw [hlen] at h0; simp [this] at h0
     obtain ⟨b', d, n, p1, rfl, p3, p4⟩ := k4 hc
     obtain ⟨arr, t, r1, r2, r3⟩ := q3 b' d p1
     refine ⟨_, rfl, rfl, fun k j cs c hk' hj => ?_⟩
     obtain ⟨u, u1, u2⟩ := r3 (off + k) j cs c (at_ k cs hk') hj
     refine ⟨u, ?_, u2⟩
     rw [cell_of_heap r1, <- u1]
     congr 1
     show d + off * z + (k * z + j) = _
     rw [Nat.add_mul]; omega) (fun hn => by
     rw [hlen]
     rcases Nat.eq_zero_or_pos cap with h0 | h0
     · omega
     · obtain ⟨b', d, n, p1, p2, _⟩ := k4 (by omega)
       rw [hn] at p2; simp at p2)
   rw [hlen] at this
   exact this
 · simp at h
theorem alloc_drew (w : World) (o : Obj) : Grow w (w.drew.alloc o) := (Grow.drew w).trans (Grow.alloc _ _)
theorem grown_fit {need cap bytes : Nat} (h : cap < need) (hn : need < 4294967296) (hb : bytes <= 4096) : Builtin.nextslicecap need cap * bytes <= 281474976710656 := by
 have := nextslicecap_le h
 exact Nat.le_trans (Nat.mul_le_mul this hb : Builtin.nextslicecap need cap * bytes <= (2 * need) * 4096) (by omega)
theorem appendV_run {T : TypeId -> Option Ty} (hT : ∀ t y, T t = some y -> tyOf P t = some y) (hH : RepH w A bl H) {t e tx ty : TypeId} {y ye : Ty} (ht : T t = some y) (hk : y.k = .slice e) (he : T e = some ye) (hby : ye.bytes <= 4096) (hzl : ye.zero.length = ye.size) (htx : (∃ e', P.underlying tx = some (.slice e')) \/ P.underlying tx = some .string)
   {dst src v : V} {H' : Hp} {k : Nat} (h : appendV ye.size H dst src = some (v, H', k)) {ud us : Value} (hd : RepV w A bl H dst ud) (hs : RepV w A bl H src us) :
   ∃ r w', (Builtin.append_ #[t, tx] ty #[ud, us]).run P w = .ok r w' /\ ∃ bl', RepV w' A bl' H' v r /\ RepH w' A bl' H' /\ Le w A bl H w' A bl' H' /\ Evo w A (Liv bl H) w' A (Liv bl' H') := by
 obtain ⟨i, d, hi⟩ := get_wf hT ht
 have hdd : d = .slice e := kOf_slice (hk.symm.trans hi.k)
 subst hdd
 obtain ⟨ei, ed, hei⟩ := get_wf hT he
 obtain ⟨z, hz, _, hzs⟩ := zero_of (w := w) (A := A) (bl := bl) (H := H) hei hzl
 unfold appendV at h
 split at h
 case h_1 => simp at h
 rename_i ys hys
 obtain ⟨news, hsrc⟩ := srcOf_is hH htx hys hs
 have hsrc' : Src P ei.size tx us ys.length news w := by rw [<- hei.size]; exact hsrc.src
 split at h
 · -- onto what has no room
   rename_i z0 nl xs
   split at h <;> simp only [Option.some.injEq, reduceCtorEq, Prod.mk.injEq] at h
   rename_i hc
   obtain ⟨c1, c2, c3⟩ := hc
   obtain ⟨rfl, rfl, rfl⟩ := h
   obtain ⟨base, hud, hspot, hbn, hold, hxl⟩ : ∃ base : Option Addr, ud = .slice base xs.length xs.length /\ (xs.length ≠ 0 -> ∀ a0, base = some a0 -> a0.spot = none) /\ (base = none -> xs.length = 0) /\ (∃ olds : List Value, (Builtin.firstCells ei.size xs.length (.slice base xs.length xs.length)).run P w.drew = .ok olds.toArray w.drew /\ olds.length = xs.length * ye.size ∧
       ∀ (k j : Nat) (cs : List C) (c : C), xs[k]? = some cs -> cs[j]? = some c -> ∃ u, olds[k * ye.size + j]? = some u /\ RepC w A c u) /\ ∀ cs ∈ xs, cs.length = ye.size := by
     rcases hd.sl_inv with ⟨rfl, rfl, hnl⟩ | ⟨a, cap, vs, rfl, g1, g2, g3, g4, g5, g6, g7⟩
     · exact ⟨none, rfl, fun _ _ h => by simp at h, fun _ => rfl, ⟨[], by simp [Builtin.firstCells], by simp, by simp⟩, by simp⟩
     · have hcap := g3 rfl
       refine ⟨some a, by rw [hcap], fun h0 a0 h => (by simp only [Option.some.injEq] at h; subst h; exact g1 (by omega)), fun h => (by simp at h), ?_, fun cs hcs => ?_⟩
       · rcases c1 with rfl | rfl
         · obtain ⟨olds, n1, n2, n3, n4⟩ := row_cells (w := w) (A := A) g5 (f := fun j => w.cell? ⟨a.block, a.off + j, none⟩) (fun k j cs c hk hj => ⟨_, by rw [<- Nat.add_assoc]; exact (g6 k j cs c hk hj).2, g7 k j cs c hk hj⟩)
           refine ⟨olds, ?_, n1, n4⟩
           exact run_firstCells_some w.drew ei.size xs.length a xs.length xs.length olds (by rw [n1, hei.size]) (fun j u hj => by
             have hlt := (List.getElem?_eq_some_iff.1 hj).1
             rw [n1] at hlt
             rw [add_spot (g1 (fun hc0 => by rw [show xs.length = 0 by omega] at hlt; omega))]; simpa using n2 j u hj)
         · exact ⟨[], by simp [Builtin.firstCells, loadCells, loadCellsFrom], by simp, by simp⟩
       · rcases c1 with rfl | rfl
         · exact g5 cs hcs
         · simp at hcs
   subst hud
   obtain ⟨olds, o1, o2, o3⟩ := hold
   by_cases hn : ys.length = 0
   · -- nothing onto nothing
     have hy0 : ys = [] := List.eq_nil_of_length_eq_zero hn
     have hx0 : xs = [] := by rcases c2 with h | h; exact h; exact absurd hy0 h
     subst hy0; subst hx0
     have hnews : news = [] := by have := hsrc'.newsLen; simp at this; exact this
     subst hnews
     have hrun := run_append_nothing (P := P) w t tx ty e ei hi.und hei.info base 0 0 (Nat.le_refl _) us hsrc'
     obtain ⟨bl', b1, b2, b3, b4⟩ := push_none hH ye.size
     refine ⟨_, _, hrun, bl', ?_, b2, b3, b4⟩
     refine .buf _ _ _ _ _ _ _ (by simp) (fun z e xs _ => Nat.zero_le _) fun z' xs' h' => ?_
     simp at h'
     obtain ⟨_, rfl⟩ := h'
     exact ⟨by simp, rfl, ⟨Nat.le_refl _, fun h => absurd rfl h, fun _ => rfl⟩, fun h => absurd rfl h⟩
   · have hgrow : xs.length < xs.length + ys.length := by omega
     have hrun := run_append_grow_src (P := P) w t tx ty e ei z hi.und hei.info hz base xs.length xs.length olds o1 us ys.length news hsrc' hgrow (by omega) (grown_fit hgrow c3 (by rw [<- hei.bytes]; exact hby))
     have hg : xs.length + ys.length <= grownCap w (xs.length + ys.length) xs.length e := grownCap_ge w _ _ e
     generalize hcap : grownCap w (xs.length + ys.length) xs.length e = cap at hrun hg
     have hnl : news.length = ys.length * ye.size := by rw [hsrc'.newsLen, hei.size]
     have hsizes : ((olds ++ news).toArray ++ Builtin.zeroCells z.cells (cap - (xs.length + ys.length))).size = xs.length * ye.size + ys.length * ye.size + (cap - (xs.length + ys.length)) * z.cells.size := by
       simp [size_zeroCells, o2, hnl]
     have hnew : (w.drew.alloc (.cells ((olds ++ news).toArray ++ Builtin.zeroCells z.cells (cap - (xs.length + ys.length))) e)).heap[w.heap.size]? = some (.cells ((olds ++ news).toArray ++ Builtin.zeroCells z.cells (cap - (xs.length + ys.length))) e) := heap_alloc_new w.drew _
     have hbig : (xs.length + ys.length) * ye.size = xs.length * ye.size + ys.length * ye.size := Nat.add_mul _ _ _
     have hcapm : cap * ye.size = (xs.length + ys.length) * ye.size + (cap - (xs.length + ys.length)) * ye.size := by rw [<- Nat.add_mul]; congr 1; omega
     have hcells : ∀ (k j : Nat) (cs : List C) (c : C), (xs ++ ys)[k]? = some cs -> cs[j]? = some c -> ∃ u, ((olds ++ news).toArray ++ Builtin.zeroCells z.cells (cap - (xs.length + ys.length)))[k * ye.size + j]? = some u /\ RepC w A c u := by
       intro k j cs c hk hj
       rcases Nat.lt_or_ge k xs.length with hlt | hge
       · rw [List.getElem?_append_left hlt] at hk
         obtain ⟨u, u1, u2⟩ := o3 k j cs c hk hj
         have hb := (List.getElem?_eq_some_iff.1 u1).1
         refine ⟨u, ?_, u2⟩
         rw [Array.getElem?_append_left (by simp; omega)]
         simp only [List.getElem?_toArray]
         rw [List.getElem?_append_left hb]; exact u1
       · rw [List.getElem?_append_right hge] at hk
         obtain ⟨u, u1, u2⟩ := hsrc.rep _ j cs c hk hj
         have hb := (List.getElem?_eq_some_iff.1 u1).1
         have e1 : k * ye.size = xs.length * ye.size + (k - xs.length) * ye.size := by rw [<- Nat.add_mul]; congr 1; omega
         refine ⟨u, ?_, u2⟩
         rw [Array.getElem?_append_left (by simp; omega)]
         simp only [List.getElem?_toArray]
         rw [List.getElem?_append_right (by omega), <- u1]
         congr 1; omega
     obtain ⟨bl', b0, b1, b2, b3⟩ := push_mem hH (xs := xs ++ ys) (z := ye.size) (alloc_drew w _) (by simp) hnew (fun cs hcs => (List.mem_append.1 hcs).elim (hxl cs) (hsrc.len cs)) (by rw [hsizes, hzs]; simp; omega) hcells
     refine ⟨_, _, hrun, bl', ?_, b1, b2, b3⟩
     refine .buf _ _ _ _ _ _ _ (by simp) (fun z e xs _ => Nat.zero_le _) fun z' xs' h' => ?_
     simp at h'
     obtain ⟨rfl, rfl⟩ := h'
     refine ⟨by simp, rfl, ⟨hg, fun _ a0 h => (by simp only [Option.some.injEq] at h; subst h; rfl), fun h => (by simp at h)⟩, fun _ => ⟨w.heap.size, 0, ((olds ++ news).toArray ++ Builtin.zeroCells z.cells (cap - (xs.length + ys.length))).size, b0, by simp, ?_, ?_⟩⟩
     · (simp only [rowOf]; rw [hnew]; rfl)
     · rw [hsizes, hzs]; simp only [Nat.zero_add]; omega
 · -- onto an own row
   rename_i i0 ep off len
   split at h
   case h_2 => simp at h
   rename_i z0 e0 xs hmem
   split at h <;> simp only [Option.some.injEq, reduceCtorEq, Prod.mk.injEq] at h
   rename_i hc
   obtain ⟨rfl, rfl, c3⟩ := hc
   obtain ⟨rfl, rfl, rfl⟩ := h
   obtain ⟨base, l0, cap, rfl, g1, g2, g3⟩ := hd.buf_inv
   obtain ⟨k1, hl0, ⟨k3, k5, k6⟩, k4⟩ := g3 ye.size xs hmem
   subst hl0
   obtain ⟨q1, q2, q3⟩ := hH.obj _ _ hmem
   have hlen : ((xs.drop off).take l0).length = l0 := by simp; omega
   have at_ : ∀ (k : Nat) (cs : List C), ((xs.drop off).take l0)[k]? = some cs -> xs[off + k]? = some cs := by
     intro k cs hk
     rw [List.getElem?_take, List.getElem?_drop] at hk
     split at hk <;> simp_all
   have hlens : ∀ cs ∈ (xs.drop off).take l0 ++ ys, cs.length = ye.size := fun cs hcs => (List.mem_append.1 hcs).elim (fun h => q1 cs (List.mem_of_mem_drop (List.mem_of_mem_take h))) (hsrc.len cs)
   have hbufs : ∀ {w2 : World} {bl2 : Bl} {base2 : Option Addr} {cap2 : Nat}, l0 + ys.length <= cap2 -> ((cap2 ≠ 0 -> ∀ a0, base2 = some a0 -> a0.spot = none) /\ (base2 = none -> cap2 = 0)) -> (cap2 ≠ 0 -> ∃ b d n, bl2 i0 = some (b, d) /\ base2 = some ⟨b, d, none⟩ /\ rowOf w2 b = some n /\ d + cap2 * ye.size <= n) →
       RepV w2 A bl2 (H.set i0 (.mem ye.size (e0 + 1) ((xs.drop off).take l0 ++ ys))) (.buf i0 (e0 + 1) 0 (l0 + ys.length)) (.slice base2 (l0 + ys.length) cap2) := by
     intro w2 bl2 base2 cap2 hc2 hc3 hb2
     refine .buf _ _ _ _ _ _ _ (by simpa using g1) (fun z e xs' h' => ?_) fun z' xs' h' => ?_
     · rw [List.getElem?_set_self g1] at h'
       simp only [Option.some.injEq, O.mem.injEq] at h'
       omega
     · rw [List.getElem?_set_self g1] at h'
       simp only [Option.some.injEq, O.mem.injEq, true_and] at h'
       obtain ⟨rfl, rfl⟩ := h'
       refine ⟨by simp; omega, rfl, ⟨hc2, hc3.1, hc3.2⟩, fun h => ?_⟩
       obtain ⟨b, d, n, p1, p2, p3, p4⟩ := hb2 h
       exact ⟨b, d, n, p1, by simpa using p2, p3, by simpa using p4⟩
   by_cases hroom : l0 + ys.length <= cap
   · by_cases hcap : cap = 0
     · -- nothing onto nothing
       have hn : ys.length = 0 := by omega
       have hl00 : l0 = 0 := by omega
       have hy0 : ys = [] := List.eq_nil_of_length_eq_zero hn
       subst hy0
       have hnews : news = [] := by have := hsrc'.newsLen; simp at this; exact this
       subst hnews
       have hrun := run_append_nothing (P := P) w t tx ty e ei hi.und hei.info base l0 cap k3 us hsrc'
       obtain ⟨b1, b2, b3⟩ := rep_move (w' := w) (xs' := (xs.drop off).take l0 ++ []) hH hmem (x := bl i0) (fun b d hb => .inl ⟨d, hb⟩) (Nat.le_refl _) rfl rfl rfl (fun _ _ _ => rfl) (fun hle => by
         refine ⟨hlens, fun _ => by simp [hl00], fun b d hb => ?_⟩
         rw [upd_same] at hb
         obtain ⟨arr, t', r1, r2, _⟩ := q3 b d hb
         refine ⟨arr, t', r1, ?_, fun k j cs c hk hj => ?_⟩
         · simp [hl00]; omega
         · simp [hl00] at hk)
       refine ⟨_, _, hrun, _, ?_, b1, b2, b3⟩
       have := hbufs (w2 := w) (bl2 := upd bl i0 (bl i0)) (base2 := base) (cap2 := cap) (by simpa using k3) ⟨k5, k6⟩ (fun h => absurd hcap h)
       simpa using this
     · -- there is room
       obtain ⟨b, d, n, p1, rfl, p3, p4⟩ := k4 hcap
       obtain ⟨arr, t', r1, r2, r3⟩ := q3 b d p1
       have hn : n = arr.size := by simp only [rowOf, r1] at p3; simpa using p3.symm
       subst hn
       have hnl : news.length = ys.length * ye.size := by rw [hsrc'.newsLen, hei.size]
       have hm1 : (off + cap) * ye.size = off * ye.size + cap * ye.size := Nat.add_mul _ _ _
       have hm2 : (l0 + ys.length) * ye.size = l0 * ye.size + ys.length * ye.size := Nat.add_mul _ _ _
       have hm3 : (l0 + ys.length) * ye.size <= cap * ye.size := Nat.mul_le_mul_right _ hroom
       have hfit : d + off * ye.size + l0 * ye.size + news.length <= arr.size := by omega
       have hcl : ∀ j, j < news.length -> w.cell? ⟨b, d + off * ye.size + l0 * ye.size + j, none⟩ = some arr[d + off * ye.size + l0 * ye.size + j]! := by
         intro j hj
         rw [cell_of_heap r1, getElem!_pos arr _ (by omega)]
         exact Array.getElem?_eq_getElem (by omega)
       have hrun := run_append_room_src (P := P) w t tx ty e ei hi.und hei.info b (d + off * ye.size) l0 cap us ys.length news hsrc' hroom
         (fun j hj => by rw [<- hei.size, hcl j hj]; rfl) (fun j hj => by simp [World.frozen?, r1])
       rw [<- hei.size] at hrun
       obtain ⟨s1, s2, s3, s4, s5, s6⟩ := setCells_spec news (d + off * ye.size + l0 * ye.size) w arr r1 (by omega)
       obtain ⟨b1, b2, b3⟩ := rep_move (w' := w.setCells b (d + off * ye.size + l0 * ye.size) news) (xs' := (xs.drop off).take l0 ++ ys) hH hmem (x := some (b, d + off * ye.size)) (fun b' d' hb => by
           simp only [Option.some.injEq, Prod.mk.injEq] at hb; exact .inl ⟨d, by rw [<- hb.1]; exact p1⟩) (by omega) s3 s4 s5 (fun b' hb hn => s2 b' fun e => hn d (e ▸ p1)) (fun hle => by
         refine ⟨hlens, fun hn => by rw [upd_same] at hn; simp at hn, fun b' d' hb => ?_⟩
         rw [upd_same] at hb
         simp only [Option.some.injEq, Prod.mk.injEq] at hb
         obtain ⟨rfl, rfl⟩ := hb
         refine ⟨_, t', s1, ?_, fun k j cs c hk hj => ?_⟩
         · simp only [List.size_toArray]; rw [splice_len (by simp; omega)]; simp only [List.length_append, hlen, Array.length_toList]; omega
         · simp only [List.getElem?_toArray]
           rw [splice_get (by simp; omega)]
           have hjz : j < ye.size := hlens cs (List.mem_of_getElem? hk) ▸ (List.getElem?_eq_some_iff.1 hj).1
           rcases Nat.lt_or_ge k l0 with hlt | hge
           · rw [List.getElem?_append_left (by omega)] at hk
             have : (k + 1) * ye.size <= l0 * ye.size := Nat.mul_le_mul_right _ hlt
             rw [Nat.add_mul] at this
             rw [if_neg (by omega)]
             obtain ⟨u, u1, u2⟩ := r3 (off + k) j cs c (at_ k cs hk) hj
             refine ⟨u, ?_, u2.mono hle.C hle.A⟩
             simp only [Array.getElem?_toList]
             rw [<- u1]; congr 1
             rw [Nat.add_mul]; omega
           · rw [List.getElem?_append_right (by omega), hlen] at hk
             obtain ⟨u, u1, u2⟩ := hsrc.rep _ j cs c hk hj
             have hb := (List.getElem?_eq_some_iff.1 u1).1
             have e1 : k * ye.size = l0 * ye.size + (k - l0) * ye.size := by rw [<- Nat.add_mul]; congr 1; omega
             rw [if_pos (by omega)]
             refine ⟨u, ?_, u2.mono hle.C hle.A⟩
             rw [<- u1]; congr 1; omega)
       refine ⟨_, _, hrun, _, hbufs hroom ⟨k5, k6⟩ (fun _ => ⟨b, d + off * ye.size, arr.size, upd_same, rfl, ?_, by omega⟩), b1, b2, b3⟩
       simp only [rowOf, s1]
       simp only [Option.some.injEq, List.size_toArray]
       rw [splice_len (by simp; omega)]; simp
   · -- there is none: a new row
     have hgrow : cap < l0 + ys.length := by omega
     obtain ⟨olds, o1, o2, o3⟩ : ∃ olds : List Value, (Builtin.firstCells ei.size l0 (.slice base l0 cap)).run P w.drew = .ok olds.toArray w.drew /\ olds.length = l0 * ye.size ∧
         ∀ (k j : Nat) (cs : List C) (c : C), ((xs.drop off).take l0)[k]? = some cs -> cs[j]? = some c -> ∃ u, olds[k * ye.size + j]? = some u /\ RepC w A c u := by
       by_cases hc0 : cap = 0
       · have hl00 : l0 = 0 := by omega
         subst hl00
         refine ⟨[], ?_, by simp, by simp⟩
         cases base <;> simp [Builtin.firstCells, loadCells, loadCellsFrom]
       · obtain ⟨b, d, n, p1, rfl, p3, p4⟩ := k4 hc0
         obtain ⟨arr, t', r1, r2, r3⟩ := q3 b d p1
         obtain ⟨olds, n1, n2, n3, n4⟩ := row_cells (w := w) (A := A) (ys := (xs.drop off).take l0) (sz := ye.size) (fun cs h => hlens cs (List.mem_append_left _ h)) (f := fun j => w.cell? ⟨b, d + off * ye.size + j, none⟩) (fun k j cs c hk hj => by
           obtain ⟨u, u1, u2⟩ := r3 (off + k) j cs c (at_ k cs hk) hj
           refine ⟨u, ?_, u2⟩
           rw [cell_of_heap r1, <- u1]
           congr 1; rw [Nat.add_mul]; omega)
         rw [hlen] at n1
         exact ⟨olds, run_firstCells_some w.drew ei.size l0 ⟨b, d + off * ye.size, none⟩ l0 cap olds (by rw [n1, hei.size]) (fun j u hj => by rw [add_plain']; simpa using n2 j u hj), n1, n4⟩
     have hrun := run_append_grow_src (P := P) w t tx ty e ei z hi.und hei.info hz base l0 cap olds o1 us ys.length news hsrc' hgrow (by omega) (grown_fit hgrow c3 (by rw [<- hei.bytes]; exact hby))
     have hg : l0 + ys.length <= grownCap w (l0 + ys.length) cap e := grownCap_ge w _ _ e
     generalize hcap : grownCap w (l0 + ys.length) cap e = cap2 at hrun hg
     have hnl : news.length = ys.length * ye.size := by rw [hsrc'.newsLen, hei.size]
     have hsizes : ((olds ++ news).toArray ++ Builtin.zeroCells z.cells (cap2 - (l0 + ys.length))).size = l0 * ye.size + ys.length * ye.size + (cap2 - (l0 + ys.length)) * z.cells.size := by
       simp [size_zeroCells, o2, hnl]
     have hnew : (w.drew.alloc (.cells ((olds ++ news).toArray ++ Builtin.zeroCells z.cells (cap2 - (l0 + ys.length))) e)).heap[w.heap.size]? = some (.cells ((olds ++ news).toArray ++ Builtin.zeroCells z.cells (cap2 - (l0 + ys.length))) e) := heap_alloc_new w.drew _
     have hbig : (l0 + ys.length) * ye.size = l0 * ye.size + ys.length * ye.size := Nat.add_mul _ _ _
     have hcapm : cap2 * ye.size = (l0 + ys.length) * ye.size + (cap2 - (l0 + ys.length)) * ye.size := by rw [<- Nat.add_mul]; congr 1; omega
     have g := alloc_drew w (.cells ((olds ++ news).toArray ++ Builtin.zeroCells z.cells (cap2 - (l0 + ys.length))) e)
     obtain ⟨b1, b2, b3⟩ := rep_move (w' := w.drew.alloc (.cells ((olds ++ news).toArray ++ Builtin.zeroCells z.cells (cap2 - (l0 + ys.length))) e)) (xs' := (xs.drop off).take l0 ++ ys) hH hmem (x := some (w.heap.size, 0)) (fun b' d' hb => by
         simp only [Option.some.injEq, Prod.mk.injEq] at hb; exact .inr (by simp; omega)) g.size g.os g.tape g.output (fun b' hb _ => g.keep b' hb) (fun hle => by
       refine ⟨hlens, fun hn => by rw [upd_same] at hn; simp at hn, fun b' d' hb => ?_⟩
       rw [upd_same] at hb
       simp only [Option.some.injEq, Prod.mk.injEq] at hb
       obtain ⟨rfl, rfl⟩ := hb
       refine ⟨_, e, hnew, by rw [hsizes, hzs]; simp only [List.length_append, hlen]; omega, fun k j cs c hk hj => ?_⟩
       rw [Nat.zero_add]
       rcases Nat.lt_or_ge k l0 with hlt | hge
       · rw [List.getElem?_append_left (by omega)] at hk
         obtain ⟨u, u1, u2⟩ := o3 k j cs c hk hj
         have hb := (List.getElem?_eq_some_iff.1 u1).1
         refine ⟨u, ?_, u2.mono hle.C hle.A⟩
         rw [Array.getElem?_append_left (by simp; omega)]
         simp only [List.getElem?_toArray]
         rw [List.getElem?_append_left hb]; exact u1
       · rw [List.getElem?_append_right (by omega), hlen] at hk
         obtain ⟨u, u1, u2⟩ := hsrc.rep _ j cs c hk hj
         have hb := (List.getElem?_eq_some_iff.1 u1).1
         have e1 : k * ye.size = l0 * ye.size + (k - l0) * ye.size := by rw [<- Nat.add_mul]; congr 1; omega
         refine ⟨u, ?_, u2.mono hle.C hle.A⟩
         rw [Array.getElem?_append_left (by simp; omega)]
         simp only [List.getElem?_toArray]
         rw [List.getElem?_append_right (by omega), <- u1]
         congr 1; omega)
     refine ⟨_, _, hrun, _, hbufs hg ⟨fun _ a0 h => (by simp only [Option.some.injEq] at h; subst h; rfl), fun h => (by simp at h)⟩ (fun _ => ⟨w.heap.size, 0, ((olds ++ news).toArray ++ Builtin.zeroCells z.cells (cap2 - (l0 + ys.length))).size, upd_same, rfl, ?_, ?_⟩), b1, b2, b3⟩
     · (simp only [rowOf]; rw [hnew]; rfl)
     · rw [hsizes, hzs]; omega
 · simp at h
end
end Go.Ev
namespace Go.Ev
section
variable {P : Program} {w w' : World} {A : Nat -> Prop} {bl : Bl} {H : Hp} {fr : Fr} {a : Act}
theorem made_flat {z : Array Value} {sz : Nat} (hz : z.size = sz) (n : Nat) : (madeCells z (n * sz)).toList = (List.replicate n z.toList).flatten := by
 unfold madeCells
 apply List.ext_getElem?
 intro j
 by_cases hj : j < n * sz
 · simp only [Array.toList_map, List.getElem?_map]
   rw [show (Array.range (n * sz)).toList[j]? = some j by simp [hj]]
   simp only [Option.map_some]
   have hs : 0 < sz := by rcases Nat.eq_zero_or_pos sz with h0 | h0; (rw [h0] at hj; omega); exact h0
   have key : ∀ (n j : Nat), j < n * sz -> (List.replicate n z.toList).flatten[j]? = some z[j % z.size]! := by
     intro n
     induction n with
     | zero => intro j h; omega
     | succ n ih =>
       intro j h
       rw [Nat.add_mul, Nat.one_mul] at h
       simp only [List.replicate_succ, List.flatten_cons]
       rcases Nat.lt_or_ge j sz with hlt | hge
       · rw [List.getElem?_append_left (by simp; omega), Nat.mod_eq_of_lt (by omega), getElem!_pos z j (by omega)]
         simp
       · rw [List.getElem?_append_right (by simp; omega), Array.length_toList, ih _ (by omega), hz]
         congr 2
         rw [<- Nat.mod_eq_sub_mod hge]
   rw [key n j hj]
 · rw [List.getElem?_eq_none (by simp; omega), List.getElem?_eq_none]
   simp [hz]; omega
theorem repl_cells {m : List C} {us : List Value} (h : RepL w A bl H (m.map .c) us) : ∀ (n k j : Nat) (cs : List C) (x : C), (List.replicate n m)[k]? = some cs -> cs[j]? = some x -> ∃ u, (List.replicate n us).flatten[k * m.length + j]? = some u /\ RepC w A x u := by
 have hl : us.length = m.length := by have := h.1; simp at this; omega
 intro n
 induction n with
 | zero => intro k j cs x hk; simp at hk
 | succ n ih =>
   intro k j cs x hk hj
   simp only [List.replicate_succ, List.flatten_cons]
   cases k with
   | zero =>
     simp only [List.replicate_succ, List.getElem?_cons_zero, Option.some.injEq] at hk
     subst hk
     have hlt := (List.getElem?_eq_some_iff.1 hj).1
     rw [List.getElem?_append_left (by omega)]
     refine ⟨us[0 * m.length + j]'(by omega), by simp, ?_⟩
     have := h.2 j (.c x) (us[0 * m.length + j]'(by omega)) (by simp [hj]) (by simp)
     cases this with | c _ _ h => exact h
   | succ k =>
     simp only [List.replicate_succ, List.getElem?_cons_succ] at hk
     obtain ⟨u, u1, u2⟩ := ih k j cs x hk hj
     rw [List.getElem?_append_right (by rw [Nat.add_mul]; omega)]
     refine ⟨u, ?_, u2⟩
     rw [<- u1]; congr 1
     rw [Nat.add_mul]; omega
theorem op_makeSlice {T : TypeId -> Option Ty} (hT : ∀ t y, T t = some y -> tyOf P t = some y) (hH : RepH w A bl H) {t e : TypeId} {y ye : Ty} (ht : T t = some y) (hk : y.k = .slice e) (he : T e = some ye) {l m : Int} {kl km : IntKind} (h1 : 0 <= l) (h2 : l <= m) (h3 : m < 4294967296) (h4 : ye.bytes <= 4096) (hz : ye.zero.length = ye.size) :
   ∃ r w', (Instr.makeSlice t (.int kl l) (.int km m)).run P w = .ok r w' /\ ∃ bl', RepV w' A bl' (H ++ [.mem ye.size 0 (List.replicate l.toNat ye.zero)]) (.buf H.length 0 0 l.toNat) r /\ RepH w' A bl' (H ++ [.mem ye.size 0 (List.replicate l.toNat ye.zero)]) ∧
     Le w A bl H w' A bl' (H ++ [.mem ye.size 0 (List.replicate l.toNat ye.zero)]) /\ Evo w A (Liv bl H) w' A (Liv bl' (H ++ [.mem ye.size 0 (List.replicate l.toNat ye.zero)])) := by
 obtain ⟨i, d, hi⟩ := get_wf hT ht
 have hdd : d = .slice e := kOf_slice (hk.symm.trans hi.k)
 subst hdd
 obtain ⟨ei, ed, hei⟩ := get_wf hT he
 obtain ⟨z, hz1, hz2, hz3⟩ := zero_of (w := w) (A := A) (bl := bl) (H := H) hei hz
 have hb : (ei.bytes : Int) * m <= 281474976710656 := by
   have hb' : (ei.bytes : Int) <= 4096 := by rw [<- hei.bytes]; omega
   exact Int.le_trans (Int.mul_le_mul_of_nonneg_right hb' (by omega) : (ei.bytes : Int) * m <= 4096 * m) (by omega)
 have hrun := run_make (P := P) w t e ei z hi.und hei.info hz1 kl km l m h1 h2 hb (by omega)
 have hflat := made_flat hz3 m.toNat
 have hcells : ∀ (k j : Nat) (cs : List C) (x : C), (List.replicate l.toNat ye.zero)[k]? = some cs -> cs[j]? = some x -> ∃ u, (madeCells z.cells (m.toNat * ei.size))[k * ye.size + j]? = some u /\ RepC w A x u := by
   intro k j cs x hk hj
   have hk' : (List.replicate m.toNat ye.zero)[k]? = some cs := by
     rw [List.getElem?_replicate] at hk ⊢
     split at hk <;> simp at hk
     rw [if_pos (by omega), hk]
   obtain ⟨u, u1, u2⟩ := repl_cells hz2 m.toNat k j cs x hk' hj
   refine ⟨u, ?_, u2⟩
   rw [<- hflat, hz, Array.getElem?_toList] at u1
   rw [<- hei.size]; exact u1
 have hlm : l.toNat * ye.size <= m.toNat * ye.size := Nat.mul_le_mul_right _ (by omega)
 obtain ⟨bl', b0, b1, b2, b3⟩ := push_mem hH (z := ye.size) (xs := List.replicate l.toNat ye.zero) (Grow.alloc w _) (by simp) (heap_alloc_new w (.cells (madeCells z.cells (m.toNat * ei.size)) e)) (fun cs hcs => by rw [(List.mem_replicate.1 hcs).2]; exact hz) (by rw [size_madeCells, <- hei.size]; simp; exact hlm) hcells
 refine ⟨_, _, hrun, bl', ?_, b1, b2, b3⟩
 refine .buf _ _ _ _ _ _ _ (by simp) (fun z e xs _ => Nat.zero_le _) fun z' xs' h' => ?_
 simp at h'
 obtain ⟨rfl, rfl⟩ := h'
 refine ⟨by simp, rfl, ⟨by omega, fun _ a0 h => (by simp only [Option.some.injEq] at h; subst h; rfl), fun h => (by simp at h)⟩, fun _ => ⟨w.heap.size, 0, (madeCells z.cells (m.toNat * ei.size)).size, b0, by simp, ?_, by rw [size_madeCells, <- hei.size]; simp⟩⟩
 have hnew := heap_alloc_new w (.cells (madeCells z.cells (m.toNat * ei.size)) e)
 simp only [rowOf]; rw [hnew]; rfl
theorem run_allocV {t : TypeId} {i : TypeInfo} {z : Value} (hi : P.info? t = some i) (hz : i.zero = some z) : (Instr.alloc t true (.tuple #[])).run P w = .ok (.pointer (some ⟨w.heap.size, 0, none⟩)) (w.alloc (.cells z.cells t)) := by
 unfold Instr.alloc
 simp [run_zeroValue hi hz, newVar, newRow]
theorem lenV_run {T : TypeId -> Option Ty} (hT : ∀ t y, T t = some y -> tyOf P t = some y) {t : TypeId} {x : V} {n : Nat} (h : lenV T H t x = some n) {u : Value} (hx : RepV w A bl H x u) (ty : TypeId) : (Builtin.len_ #[t] ty #[u]).run P w = .ok (.int .i64 n) w := by
 unfold lenV at h
 split at h
 case h_1 => simp at h
 rename_i y hy
 obtain ⟨i, d, hi⟩ := get_wf hT hy
 split at h
 · rename_i s hk
   have hd : d = .string := kOf_str (hk.symm.trans hi.k)
   subst hd
   simp only [Option.some.injEq] at h
   subst h
   obtain rfl := hx.str_inv
   have hsz : (ByteArray.mk s.toArray).size = s.length := by simp [ByteArray.size]
   unfold Builtin.len_
   simp only [List.getElem?_toArray, List.getElem?_cons_zero, Sem.run_bind, run_underlying hi.und, Result.andThen_ok, hsz]
   rfl
 · rename_i e z nl ti l hk
   have hd : d = .slice e := kOf_slice (hk.symm.trans hi.k)
   subst hd
   simp only [Option.some.injEq] at h
   subst h
   rcases hx.sl_inv with ⟨rfl, rfl, _⟩ | ⟨b, cap, vs, rfl, _⟩ <;> simp [Builtin.len_, run_underlying hi.und, goInt]
 · rename_i e i0 ep off n0 hk
   have hd : d = .slice e := kOf_slice (hk.symm.trans hi.k)
   subst hd
   split at h
   case h_2 => simp at h
   rename_i z e1 xs hmem
   split at h <;> simp only [Option.some.injEq, reduceCtorEq] at h
   rename_i he
   subst he; subst h
   obtain ⟨b, l0, cap, rfl, g1, g2, g3⟩ := hx.buf_inv
   obtain ⟨k1, hl0, ⟨k3, k5, k6⟩, k4⟩ := g3 z xs hmem
   subst hl0
   simp [Builtin.len_, run_underlying hi.und, goInt]
 · rename_i m e hk
   have hd : d = .array m e := kOf_array (hk.symm.trans hi.k)
   subst hd
   simp only [Option.some.injEq] at h
   subst h
   simp [Builtin.len_, run_underlying hi.und, goInt]
 · rename_i e hk
   have hd : d = .pointer e := kOf_ptr (hk.symm.trans hi.k)
   subst hd
   split at h
   case h_2 => simp at h
   rename_i ye hye
   split at h <;> simp only [Option.some.injEq, reduceCtorEq] at h
   subst h
   rename_i m e' hk'
   obtain ⟨i', d', hi'⟩ := get_wf hT hye
   have hd : d' = .array m e' := kOf_array (hk'.symm.trans hi'.k)
   subst hd
   simp [Builtin.len_, run_underlying hi.und, run_underlying hi'.und, goInt]
 · simp at h
theorem minMax_run : ∀ {r : List V} {x v : V} {gt : Bool} {us : List Value} {u : Value}, minMax gt x r = some v -> RepV w A bl H x u -> r.length = us.length -> (∀ (j : Nat) (x : V) (u : Value), r[j]? = some x -> us[j]? = some u -> RepV w A bl H x u) →
   ∃ q, (us.foldlM (if gt then Builtin.max2 else Builtin.min2) u).run P w = .ok q w /\ RepV w A bl H v q
 | [], x, v, gt, us, u, h, hx, hl, hr => by
   obtain rfl : us = [] := List.eq_nil_of_length_eq_zero hl.symm
   simp only [minMax, Option.some.injEq] at h
   subst h
   exact ⟨u, rfl, hx⟩
 | y :: r, x, v, gt, us, u, h, hx, hl, hr => by
   obtain ⟨u', us, rfl⟩ : ∃ u' us', us = u' :: us' := by
     cases us with
     | nil => simp at hl
     | cons u l => exact ⟨u, l, rfl⟩
   have hy := hr 0 y u' rfl rfl
   unfold minMax at h
   split at h
   · simp_all
   · rename_i k x0 k' y0 r' he
     simp only [List.cons.injEq] at he
     obtain ⟨rfl, rfl⟩ := he
     split at h
     case isFalse => simp at h
     rename_i hk
     subst hk
     obtain rfl := hx.int_inv
     obtain rfl := hy.int_inv
     have hstep : ((if gt then Builtin.max2 else Builtin.min2) (.int k x0) (.int k y0)).run P w = .ok (.int k (if (if gt then x0 < y0 else y0 < x0) then y0 else x0)) w := by
       cases gt <;> simp [Builtin.max2, Builtin.min2]
     obtain ⟨q, q1, q2⟩ := minMax_run (gt := gt) h (RepV.int k _) (us := us) (by simpa using hl) (fun j x u hj hu => hr (j + 1) x u (by simpa using hj) (by simpa using hu))
     refine ⟨q, ?_, q2⟩
     rw [List.foldlM_cons, Sem.run_bind, hstep]
     exact q1
   · simp at h
theorem run_call_builtin {o : Oper} {b : Builtin} {args : Array Operand} {ts : Array TypeId} (ho : o.op = .call ⟨.builtin b, args, ts⟩) : (execOp a.eval o).run P w = (builtin b ts o.type (args.map fun | .const _ => true | _ => false) (args.map a.eval)).run P w := by
 simp [execOp, ho, resolve, invoke]
 rfl
theorem out_of_run {o : Oper} {s : Sem Value} {v : V} {H' : Hp} (he : (execOp a.eval o).run P w = (do pure (Next.value (← s)) : Sem Next).run P w) {r : Value} {w' : World} (hr : s.run P w = .ok r w') {A' : Nat -> Prop} {bl' : Bl} (h1 : RepV w' A' bl' H' v r) (h2 : RepH w' A' bl' H') (h3 : Le w A bl H w' A' bl' H') (h4 : Evo w A (Liv bl H) w' A' (Liv bl' H')) : Out P a o w A bl H v H' :=
 ⟨r, w', A', bl', .inl (by rw [he]; simp [hr]), h1, h2, h3, h4⟩
theorem out_pure {o : Oper} {s : Sem Value} {v : V} (hH : RepH w A bl H) (he : (execOp a.eval o).run P w = (do pure (Next.value (← s)) : Sem Next).run P w) {r : Value} (hr : s.run P w = .ok r w) (h1 : RepV w A bl H v r) : Out P a o w A bl H v H :=
 out_of_run he hr h1 hH (Le.refl _ _ _ _) (Evo.refl _ _ _)
theorem bnd_map (hF : RepF w A bl H fr a.tmps) {x : Option Operand} {n : Option Nat} (h : bnd fr x = some n) : (x.map a.eval = none /\ n = none) \/ ∃ k m, x.map a.eval = some (.int k (m : Nat)) /\ n = some m := by
 rcases bnd_rep hF h with ⟨rfl, rfl⟩ | ⟨o, k, m, rfl, rfl, he⟩
 · exact .inl ⟨rfl, rfl⟩
 · exact .inr ⟨k, m, by simp [he], rfl⟩
theorem pureR_inv {x : Option V} {v : V} {H' : Hp} {k : Nat} (h : pureR H x = some (v, H', k)) : x = some v /\ H' = H := by
 unfold pureR at h
 split at h <;> simp only [Option.some.injEq, Prod.mk.injEq, reduceCtorEq] at h
 obtain ⟨rfl, rfl, _⟩ := h
 exact ⟨rfl, rfl⟩
theorem moveV_out {T : TypeId -> Option Ty} (hH : RepH w A bl H) {o : Oper} {u : Value} (he : (execOp a.eval o).run P w = .ok (.value u) w) {ow : Bool} {t : TypeId} {x v : V} (hr : RepV w A bl H x u) {H' : Hp} {k : Nat} (h : moveV T ow H t x = some (v, H', k)) : Out P a o w A bl H v H' := by
 unfold moveV at h
 split at h
 · have hv : u = .slice none 0 0 := by
     rcases hr.sl_inv with ⟨h, _⟩ | ⟨b, cap, vs, h, h1, h2, _⟩
     · exact h
     · exact absurd rfl h2
   have hnil : ∀ n, RepV w A bl H (.c (.sl n (some true) true [])) u := fun n => by rw [hv]; exact .c _ _ (.slnil _ _ _ (by simp))
   split at h
   · unfold nilRow at h
     split at h
     case h_1 => simp at h
     split at h
     case h_2 => simp at h
     split at h <;> simp only [Option.some.injEq, Prod.mk.injEq, reduceCtorEq] at h
     rename_i ye hye
     obtain ⟨rfl, rfl, _⟩ := h
     obtain ⟨bl', b1, b2, b3, b4⟩ := push_none hH ye.size
     refine ⟨_, w, A, bl', .inl he, ?_, b2, b3, b4⟩
     rw [hv]
     exact buf_none (z := ye.size) (by simp)
   · split at h
     · split at h <;> simp only [Option.some.injEq, Prod.mk.injEq] at h
       · obtain ⟨rfl, rfl, _⟩ := h
         exact Out.pure hH he (hnil _)
       · obtain ⟨rfl, rfl, _⟩ := h
         exact Out.pure hH he (hnil _)
     · simp only [Option.some.injEq, Prod.mk.injEq] at h
       obtain ⟨rfl, rfl, _⟩ := h
       exact Out.pure hH he (hnil _)
 · simp only [Option.some.injEq, Prod.mk.injEq] at h
   obtain ⟨rfl, rfl, _⟩ := h
   exact Out.pure hH he hr
theorem opdL_arr (hF : RepF w A bl H fr a.tmps) {xs : Array Operand} {vs : List V} (h : opdL fr xs.toList = some vs) : vs.length = (xs.map a.eval).size /\ ∀ (j : Nat) (x : V) (u : Value), vs[j]? = some x -> (xs.map a.eval)[j]? = some u -> RepV w A bl H x u := by
 obtain ⟨h1, h2⟩ := opdL_rep hF h
 refine ⟨by simp [h1], fun j x u hj hu => h2 j x u hj ?_⟩
 rw [<- Array.getElem?_toList] at hu
 simpa using hu
theorem opdP_arr (hF : RepF w A bl H fr a.tmps) {xs : Array (Nat × Operand)} {vs : List (Nat × V)} (h : opdP fr xs.toList = some vs) : vs.length = (xs.map fun (i, x) => (i, a.eval x)).size ∧
   ∀ (j : Nat) (x : Nat × V) (u : Nat × Value), vs[j]? = some x -> (xs.map fun (i, x) => (i, a.eval x))[j]? = some u -> x.1 = u.1 /\ RepV w A bl H x.2 u.2 := by
 obtain ⟨h1, h2⟩ := opdP_rep hF h
 refine ⟨by simp at h1; simp [h1], fun j x u hj hu => h2 j x u hj ?_⟩
 rw [<- Array.getElem?_toList] at hu
 simpa using hu
theorem repl_flat {α : Type} {z : List α} {x : α} : ∀ (n k j : Nat), k < n -> z[j]? = some x -> (List.replicate n z).flatten[k * z.length + j]? = some x
 | 0, k, j, hk, _ => by omega
 | n + 1, k, j, hk, hj => by
   have hj' := (List.getElem?_eq_some_iff.1 hj).1
   simp only [List.replicate_succ, List.flatten_cons]
   cases k with
   | zero => rw [List.getElem?_append_left (by omega)]; simpa using hj
   | succ k =>
     rw [List.getElem?_append_right (by rw [Nat.add_mul]; omega), <- repl_flat n k j (by omega) hj]
     congr 1; rw [Nat.add_mul]; omega
theorem allocV_out {T : TypeId -> Option Ty} (hT : ∀ t y, T t = some y -> tyOf P t = some y) (hH : RepH w A bl H) {o : Oper} {t : TypeId} (ho : o.op = .alloc t) {ow : Bool} {v : V} {H' : Hp} {k : Nat} (h : allocV T ow H t = some (v, H', k)) : Out P a o w A bl H v H' := by
 have he : (execOp a.eval o).run P w = (do pure (Next.value (← Instr.alloc t true (.tuple #[]))) : Sem Next).run P w := by simp [execOp, ho]
 unfold allocV at h
 split at h
 case h_1 => simp at h
 rename_i y hy
 obtain ⟨i, d, hi⟩ := get_wf hT hy
 have plain : y.zero.length = y.size -> some (V.ptr H.length 0 0 0, H ++ [O.box (y.zero.map .c)], 2) = some (v, H', k) -> Out P a o w A bl H v H' := by
   intro hz h
   simp only [Option.some.injEq, Prod.mk.injEq] at h
   obtain ⟨rfl, rfl, _⟩ := h
   obtain ⟨z, hz1, hz2, hz3⟩ := zero_of (w := w) (A := A) (bl := bl) (H := H) hi hz
   obtain ⟨bl', b1, b2, b3, b4⟩ := push_box hH (cs := y.zero.map .c) (us := z.cells) (by simp; omega) (fun j x u hj hu => hz2.2 j x u hj (by simpa using hu)) t
   exact out_of_run he (run_allocV hi.info hz1) b4 b1 b2 b3
 split at h
 · rename_i n e hk
   split at h <;> simp only [Option.some.injEq, Prod.mk.injEq, reduceCtorEq] at h
   obtain ⟨rfl, rfl, _⟩ := h
   have hd := kOf_array (hk.symm.trans hi.k)
   subst hd
   obtain ⟨j, z0, lz, l0, q1, q2, q3, q4, q5, q6⟩ := hi.arr _ _ rfl
   subst q5
   have hlz := repL_zeroF (w := w) (A := A) (bl := bl) (H := H) q4 (q6.rows n)
   have hnew := heap_alloc_new w (.cells z0.cells t)
   have hsize : z0.cells.size = n * y.el.length := by
     have := cOfL_len q4; have h2 := q6.length; simp [List.length_flatten] at this; rw [h2]; exact this.symm
   have hcells : ∀ (k j : Nat) (cs : List C) (x : C), (List.replicate n y.el)[k]? = some cs -> cs[j]? = some x -> ∃ u, z0.cells[k * y.el.length + j]? = some u /\ RepC w A x u := by
     intro k j cs x hk hj
     have hk' := (List.getElem?_eq_some_iff.1 hk).1
     have hcs := List.eq_of_mem_replicate (List.mem_of_getElem? hk)
     subst hcs
     have hj' := (List.getElem?_eq_some_iff.1 hj).1
     simp at hk'
     have hm : (k + 1) * y.el.length <= n * y.el.length := Nat.mul_le_mul_right _ hk'
     rw [Nat.add_mul] at hm
     have hlt : k * y.el.length + j < z0.cells.size := by omega
     refine ⟨z0.cells[k * y.el.length + j], by simp [hlt], ?_⟩
     have hx := repl_flat n k j hk' hj
     have := hlz.2 (k * y.el.length + j) (.c x) z0.cells[k * y.el.length + j] (by rw [List.getElem?_map, hx]; rfl) (by simp [hlt])
     cases this with | c _ _ h => exact h
   obtain ⟨bl', b0, b1, b2, b3⟩ := push_mem hH (z := y.el.length) (xs := List.replicate n y.el) (Grow.alloc w _) (by simp) hnew (fun cs hcs => by rw [(List.mem_replicate.1 hcs).2]) (by simp [hsize]) hcells
   refine out_of_run he (run_allocV hi.info q3) ?_ b1 b2 b3
   exact .ptr _ _ _ _ _ (by simp) (fun z e xs _ => Nat.zero_le _) (fun cs h => by simp at h) (fun z' xs h => ⟨_, _, b0, by simp⟩)
 · rename_i e hk
   have hd := kOf_slice (hk.symm.trans hi.k)
   subst hd
   have hz := hi.zero' (fun n e' he => by cases he)
   split at h
   · split at h
     case h_2 => simp at h
     rename_i ye hye
     split at h <;> simp only [Option.some.injEq, Prod.mk.injEq, reduceCtorEq] at h
     rename_i hone
     obtain ⟨zz, hone⟩ : ∃ zz, y.zero = [.sl zz (some true) true []] := by
       unfold nilOnly at hone
       split at hone
       · exact ⟨_, by assumption⟩
       · simp at hone
     obtain ⟨rfl, rfl, _⟩ := h
     obtain ⟨bl1, b1, b2, b3, b4⟩ := push_none hH ye.size
     obtain ⟨z, hz1, hz2, hz3⟩ := zero_of (w := w) (A := A) (bl := bl) (H := H) hi hz
     have hzn : z.cells = #[.slice none 0 0] := by
       rw [hone] at hz2
       obtain ⟨u, hu⟩ : ∃ u, z.cells.toList = [u] := by
         have := hz2.1
         match hq : z.cells.toList, this with
         | [u], _ => exact ⟨u, rfl⟩
       have := hz2.2 0 _ u rfl (by rw [hu]; rfl)
       apply Array.ext'
       rw [hu]
       rcases this.sl_inv with ⟨rfl, _⟩ | ⟨b, cap, vs, _, _, h2, _⟩
       · rfl
       · exact absurd rfl h2
     obtain ⟨bl', d1, d2, d3, d4⟩ := push_box b2 (cs := [.buf H.length 0 0 0]) (us := z.cells) (by rw [hzn]; rfl) (fun j x u hj hu => by
       rw [hzn] at hu
       cases j with
       | zero => simp at hj hu; subst hj; subst hu; exact buf_none (z := ye.size) (by simp)
       | succ j => simp at hj) t
     simp only [List.length_append, List.length_cons, List.length_nil, Nat.zero_add] at d4
     exact out_of_run he (run_allocV hi.info hz1) d4 d1 (b3.trans d2) (b4.trans d3)
   · exact plain hz h
 · rename_i h1 h2
   refine plain (hi.zero' fun n e' he => ?_) h
   subst he
   exact h1 n e' (hi.k.trans rfl)
theorem boxV_out (hH : RepH w A bl H) {o : Oper} {t : TypeId} {x : Operand} (ho : o.op = .box t x) {v0 : V} (hr : RepV w A bl H v0 (a.eval x)) {v : V} {H' : Hp} {k : Nat} (h : boxV H v0 = some (v, H', k)) : Out P a o w A bl H v H' := by
 unfold boxV at h
 split at h <;> simp only [Option.some.injEq, Prod.mk.injEq, reduceCtorEq] at h
 rename_i hall
 obtain ⟨rfl, rfl, _⟩ := h
 obtain ⟨r1, r2, r3⟩ := hr.cells hall
 obtain ⟨bl', b1, b2, b3, b4⟩ := push_box hH (cs := v0.cells) (us := (a.eval x).cells) r1.symm r2 t
 exact out_of_run (s := Instr.box t (a.eval x)) (by simp [execOp, ho]) (by simp [Instr.box, newVar, newRow]) b4 b1 b2 b3
theorem sliceV_out {T : TypeId -> Option Ty} (hT : ∀ t y, T t = some y -> tyOf P t = some y) (hH : RepH w A bl H) {o : Oper} {t : TypeId} {u : Value} {lo' hi' mx' : Option Value} (he : (execOp a.eval o).run P w = (do pure (Next.value (← Instr.sliceAt t u lo' hi' mx')) : Sem Next).run P w) {x : V} (hu : RepV w A bl H x u) {lo hi mx : Option Nat}
   (hl : (lo' = none /\ lo = none) \/ ∃ k m, lo' = some (.int k (m : Nat)) /\ lo = some m) (hh : (hi' = none /\ hi = none) \/ ∃ k m, hi' = some (.int k (m : Nat)) /\ hi = some m) (hm : (mx' = none /\ mx = none) \/ ∃ k m, mx' = some (.int k (m : Nat)) /\ mx = some m)
   {v : V} {H' : Hp} {k : Nat} (h : sliceV T H t x lo hi mx = some (v, H', k)) : Out P a o w A bl H v H' := by
 unfold sliceV at h
 split at h
 case h_1 => simp at h
 rename_i y hy
 split at h
 · rename_i s hk
   split at h
   case h_2 => simp at h
   split at h <;> simp only [Option.some.injEq, Prod.mk.injEq, reduceCtorEq] at h
   rename_i hc
   obtain ⟨rfl, rfl, _⟩ := h
   obtain rfl := hu.str_inv
   have hmx : mx' = none := by
     rcases hm with ⟨h, _⟩ | ⟨_, _, _, h⟩
     · exact h
     · simp at h
   subst hmx
   exact out_pure hH he (op_slice_str hT hy hk hl hh hc.1 hc.2) (.str _)
 · rename_i e z nl ti xs hk
   split at h
   case h_1 => simp at h
   rename_i ye hye
   split at h <;> simp only [Option.some.injEq, Prod.mk.injEq, reduceCtorEq] at h
   rename_i hc
   obtain ⟨rfl, rfl, _⟩ := h
   obtain ⟨c1, c2, c3, c4⟩ := hc
   obtain ⟨ei, ed, hei⟩ := get_wf hT hye
   obtain ⟨b, cap, rfl, hcap, hrep⟩ := sl_cut hu (size := ei.size) (l := lo.getD 0) (h := hi.getD xs.length) (fun hne => by rw [<- hei.size]; exact (c4.resolve_right hne).symm) c1 c2 (fun cap => mx.getD cap) (fun cap hc => by
       rcases c3 with rfl | ⟨rfl, _⟩ <;> simp <;> omega) (ti' := cutTight mx (ti && decide (hi.getD xs.length = xs.length))) (fun ht cap hc hct => by
       rcases c3 with rfl | ⟨rfl, _⟩
       · simp only [cutTight] at ht
         simp only [Bool.and_eq_true, decide_eq_true_eq] at ht
         simp only [Option.getD_none]
         rw [hct ht.1, ht.2]
       · simp)
   exact out_pure hH he (op_slice_sl hT hy hk hei.info hl hh hm c1 (by rcases c3 with rfl | ⟨rfl, _⟩ <;> simp <;> omega) (by rcases c3 with rfl | ⟨rfl, _⟩ <;> simp; omega) (fun hn => by rcases c3 with rfl | ⟨_, h⟩; exact absurd rfl hn; exact h)) hrep
 · rename_i e i0 ep off len hk
   split at h
   case h_2 => simp at h
   rename_i ye z ep' xs hye hmem
   split at h <;> simp only [Option.some.injEq, Prod.mk.injEq, reduceCtorEq] at h
   rename_i hc
   obtain ⟨rfl, rfl, _⟩ := h
   obtain ⟨c1, c2, c3, rfl, rfl⟩ := hc
   obtain ⟨ei, ed, hei⟩ := get_wf hT hye
   obtain ⟨b, cap, rfl, hcap, hrep⟩ := buf_cut hu hmem (l := lo.getD 0) (h := hi.getD len) c1 c2 (fun cap => mx.getD cap) (fun cap hc => by rcases c3 with rfl | ⟨rfl, _⟩ <;> simp <;> omega)
   rw [hei.size] at hrep
   exact out_pure hH he (op_slice_sl hT hy hk hei.info hl hh hm c1 (by rcases c3 with rfl | ⟨rfl, _⟩ <;> simp <;> omega) (by rcases c3 with rfl | ⟨rfl, _⟩ <;> simp; omega) (fun hn => by rcases c3 with rfl | ⟨_, h⟩; exact absurd rfl hn; exact h)) hrep
 · simp at h
theorem buildV_out {T : TypeId -> Option Ty} (hT : ∀ t y, T t = some y -> tyOf P t = some y) (hH : RepH w A bl H) (hF : RepF w A bl H fr a.tmps) {o : Oper} {t : TypeId} {ps : Array (Nat × Operand)} (ho : o.op = .build t ps) {l : List (Nat × V)} (hl : opdP fr ps.toList = some l) {v : V} {H' : Hp} {k : Nat} (h : buildV T H t l = some (v, H', k)) : Out P a o w A bl H v H' := by
 unfold buildV at h
 split at h
 case h_1 => simp at h
 rename_i y hy
 split at h
 case h_2 => simp at h
 rename_i fs hk
 split at h <;> simp only [Option.some.injEq, Prod.mk.injEq, reduceCtorEq] at h
 rename_i cs hcs
 obtain ⟨rfl, rfl, _⟩ := h
 obtain ⟨h1, h2⟩ := opdP_arr hF hl
 obtain ⟨r, hr, hrep⟩ := op_build hT hy hk h1 h2 hcs
 exact out_pure hH (by simp [execOp, ho]) hr hrep
theorem buildSliceV_out {T : TypeId -> Option Ty} (hT : ∀ t y, T t = some y -> tyOf P t = some y) (hH : RepH w A bl H) (hF : RepF w A bl H fr a.tmps) {o : Oper} {t : TypeId} {n : Nat} {ps : Array (Nat × Operand)} (ho : o.op = .buildSlice t n ps) {l : List (Nat × V)} (hl : opdP fr ps.toList = some l) {v : V} {H' : Hp} {k : Nat} {ow : Bool} (h : buildSliceV T ow H t n l = some (v, H', k)) : Out P a o w A bl H v H' := by
 unfold buildSliceV at h
 split at h
 case h_1 => simp at h
 rename_i y hy
 split at h
 case h_2 => simp at h
 rename_i e hk
 split at h
 case h_1 => simp at h
 rename_i ye hye
 split at h
 case isFalse => simp at h
 rename_i hc
 split at h
 case h_2 => simp at h
 rename_i cs hcs
 split at h
 case h_2 => simp at h
 rename_i cs' hp
 obtain ⟨h1, h2⟩ := opdP_arr hF hl
 unfold laid at h
 split at h <;> simp only [Option.some.injEq, Prod.mk.injEq] at h <;> obtain ⟨rfl, rfl, _⟩ := h
 · obtain ⟨r, w', hr, bl', q1, q2, q3, q4⟩ := op_buildSliceOwn hT hH hy hk hye hc.1 hc.2 h1 h2 hcs hp
   exact out_of_run (s := Instr.buildSlice t n _) (by simp [execOp, ho]) hr q1 q2 q3 q4
 · obtain ⟨r, w', hr, A', q1, q2, q3, q4⟩ := op_buildSlice hT hH hy hk hye hc.1 hc.2 h1 h2 hcs hp
   exact out_of_run (s := Instr.buildSlice t n _) (by simp [execOp, ho]) hr q1 q2 q3 q4
theorem nilCheckV_out (hH : RepH w A bl H) {o : Oper} {x : Operand} (ho : o.op = .nilCheck x) {v0 : V} (hr : RepV w A bl H v0 (a.eval x)) {v : V} {H' : Hp} {k : Nat} (h : nilCheckV H v0 = some (v, H', k)) : Out P a o w A bl H v H' := by
 unfold nilCheckV at h
 split at h <;> simp only [Option.some.injEq, Prod.mk.injEq, reduceCtorEq] at h <;> obtain ⟨rfl, rfl, _⟩ := h
 · obtain ⟨b, hb, _⟩ := hr.ptr_inv
   exact Out.pure hH (by simp [execOp, ho, hb]) hr
 · obtain ⟨b, hb, _⟩ := hr.fp_inv
   exact Out.pure hH (by simp [execOp, ho, hb]) hr
theorem makeSliceV_out {T : TypeId -> Option Ty} (hT : ∀ t y, T t = some y -> tyOf P t = some y) (hH : RepH w A bl H) {o : Oper} {t : TypeId} {n c : Operand} (ho : o.op = .makeSlice t n c) {x y : V} (hx : RepV w A bl H x (a.eval n)) (hy : RepV w A bl H y (a.eval c)) {v : V} {H' : Hp} {k : Nat} (h : makeSliceV T H t x y = some (v, H', k)) : Out P a o w A bl H v H' := by
 unfold makeSliceV at h
 split at h
 case h_1 => simp at h
 rename_i yt hyt
 split at h
 case h_2 => simp at h
 rename_i e hk
 split at h
 case h_1 => simp at h
 rename_i ye hye
 split at h
 case h_2 => simp at h
 split at h <;> simp only [Option.some.injEq, Prod.mk.injEq, reduceCtorEq] at h
 rename_i hc
 obtain ⟨rfl, rfl, _⟩ := h
 have hn := hx.int_inv
 have hcv := hy.int_inv
 obtain ⟨r, w', hr, bl', q1, q2, q3, q4⟩ := op_makeSlice hT hH hyt hk hye hc.1 hc.2.1 hc.2.2.1 hc.2.2.2.1 hc.2.2.2.2
 exact out_of_run (s := Instr.makeSlice t (a.eval n) (a.eval c)) (by simp [execOp, ho]) (by rw [hn, hcv]; exact hr) q1 q2 q3 q4
theorem fieldAddrV_out {T : TypeId -> Option Ty} (hT : ∀ t y, T t = some y -> tyOf P t = some y) (hH : RepH w A bl H) {o : Oper} {s : TypeId} {x : Operand} {f : Nat} (ho : o.op = .fieldAddr s x f) {v0 : V} (hr : RepV w A bl H v0 (a.eval x)) {v : V} {H' : Hp} {k : Nat} (h : fieldAddrV T H s v0 f = some (v, H', k)) : Out P a o w A bl H v H' := by
 unfold fieldAddrV at h
 split at h
 case h_1 => simp at h
 rename_i y hy
 split at h
 case h_2 => simp at h
 rename_i fs hk
 split at h
 case h_1 => simp at h
 rename_i q hq
 split at h
 case isFalse => simp at h
 rename_i hne
 obtain ⟨off, size, ag⟩ := q
 split at h <;> simp only [Option.some.injEq, Prod.mk.injEq, reduceCtorEq] at h <;> obtain ⟨rfl, rfl, _⟩ := h
 · rename_i i ep el o0
   obtain ⟨b, hb, g1, g2, g3, g4⟩ := hr.ptr_inv
   refine out_pure (s := Instr.fieldAt s (a.eval x) f) hH (by simp [execOp, ho]) (by rw [hb]; exact op_fieldAddr hT hy hk hq hne b) ?_
   refine .ptr _ _ _ _ _ g1 g2 (fun cs hcs => ?_) (fun z xs hz => ?_)
   · obtain ⟨b', k1, k2⟩ := g3 cs hcs
     exact ⟨b', k1, fun hel => by rw [k2 hel, add_plain']⟩
   · obtain ⟨b', d, k1, k2⟩ := g4 z xs hz
     refine ⟨b', d, k1, ?_⟩
     rw [k2, add_plain']
     simp only [Addr.mk.injEq, and_true, true_and]
     omega
 · rename_i cs
   obtain ⟨b, hb, hs, hc⟩ := hr.fp_inv
   refine out_pure (s := Instr.fieldAt s (a.eval x) f) hH (by simp [execOp, ho]) (by rw [hb]; exact op_fieldAddr hT hy hk hq hne b) ?_
   rw [add_spot hs]
   refine .fp _ _ rfl fun j x hj => ?_
   rw [List.getElem?_drop] at hj
   obtain ⟨k1, u, k2, k3⟩ := hc _ x hj
   refine ⟨k1, u, ?_, k3⟩
   rw [<- k2]
   congr 2
   show b.off + off + j = _
   omega
theorem fieldV_out {T : TypeId -> Option Ty} (hT : ∀ t y, T t = some y -> tyOf P t = some y) (hH : RepH w A bl H) {o : Oper} {s : TypeId} {x : Operand} {f : Nat} (ho : o.op = .field s x f) {v0 : V} (hr : RepV w A bl H v0 (a.eval x)) {v : V} {H' : Hp} {k : Nat} (h : fieldV T H s v0 f = some (v, H', k)) : Out P a o w A bl H v H' := by
 unfold fieldV at h
 split at h
 case h_1 => simp at h
 rename_i y hy
 split at h
 case h_2 => simp at h
 rename_i fs xs hk
 split at h
 case h_1 => simp at h
 rename_i q hq
 split at h
 case h_2 => simp at h
 rename_i l hl
 obtain ⟨off, size, ag⟩ := q
 obtain ⟨h1, rfl⟩ := pureR_inv h
 obtain ⟨r, hr', hrep⟩ := op_field hT hy hk hq hl h1 hr
 exact out_pure hH (by simp [execOp, ho]) hr' hrep
theorem indexAddrV_out {T : TypeId -> Option Ty} (hT : ∀ t y, T t = some y -> tyOf P t = some y) (hH : RepH w A bl H) {o : Oper} {t : TypeId} {x ix : Operand} (ho : o.op = .indexAddr t x ix) {v0 vi : V} (hr : RepV w A bl H v0 (a.eval x)) (hi : RepV w A bl H vi (a.eval ix)) {v : V} {H' : Hp} {k : Nat} (h : indexAddrV T H t v0 vi = some (v, H', k)) : Out P a o w A bl H v H' := by
 have he : (execOp a.eval o).run P w = (do pure (Next.value (← Instr.indexAt t (a.eval x) (a.eval ix))) : Sem Next).run P w := by simp [execOp, ho]
 unfold indexAddrV at h
 split at h
 case h_2 => simp at h
 rename_i kn n
 split at h
 case isFalse => simp at h
 rename_i h0
 have hix := hi.int_inv
 rw [hix] at he
 obtain ⟨m, rfl⟩ := Int.eq_ofNat_of_zero_le h0
 simp only [Int.toNat_natCast] at h
 split at h
 case h_1 => simp at h
 rename_i y hy
 split at h
 · rename_i e hk
   split at h
   case h_1 => simp at h
   rename_i ye hye
   obtain ⟨ei, ed, hei⟩ := get_wf hT hye
   split at h
   · rename_i z nl ti xs
     split at h
     case isFalse => simp at h
     rename_i hz
     split at h <;> simp only [Option.some.injEq, Prod.mk.injEq, reduceCtorEq] at h
     rename_i cs hcs
     obtain ⟨rfl, rfl, _⟩ := h
     obtain ⟨b, cap, hb, hfp⟩ := fp_of_sl hr hcs
     rw [hb] at he
     refine out_pure hH he (op_indexAddr_sl hT hy hk hei.info ((List.getElem?_eq_some_iff.1 hcs).1)) ?_
     rw [<- hei.size, <- hz]
     exact hfp
   · rename_i i0 ep off len
     split at h
     case h_2 => simp at h
     rename_i z ep' xs hmem
     split at h <;> simp only [Option.some.injEq, Prod.mk.injEq, reduceCtorEq] at h
     rename_i hc
     obtain ⟨c1, rfl, rfl⟩ := hc
     obtain ⟨rfl, rfl, _⟩ := h
     obtain ⟨b, cap, hb, hfp⟩ := ptr_of_buf hr hmem (n := m) (by omega)
     rw [hb] at he
     refine out_pure hH he (op_indexAddr_sl hT hy hk hei.info (by omega)) ?_
     rw [<- hei.size]
     exact hfp
   · simp at h
 · rename_i m' e hk
   split at h
   case h_1 => simp at h
   rename_i ye hye
   obtain ⟨ei, ed, hei⟩ := get_wf hT hye
   split at h
   case isFalse => simp at h
   rename_i hlt
   split at h
   case h_2 => simp at h
   rename_i i0 ep el o0
   obtain ⟨b, hb, g1, g2, g3, g4⟩ := hr.ptr_inv
   rw [hb] at he
   have hrun := op_indexAddr_arr (P := P) (w := w) hT hy hk hei.info (a := b) (n := m) (k := kn) (by omega)
   split at h
   · rename_i z ep' xs hmem
     split at h <;> simp only [Option.some.injEq, Prod.mk.injEq, reduceCtorEq] at h
     rename_i hc
     obtain ⟨rfl, rfl, rfl⟩ := hc
     obtain ⟨rfl, rfl, _⟩ := h
     refine out_pure hH he hrun ?_
     refine .ptr _ _ _ _ _ g1 g2 (fun cs hcs => by rw [hmem] at hcs; simp at hcs) (fun z' xs' hz => ?_)
     obtain ⟨b', d, k1, k2⟩ := g4 z' xs' hz
     rw [hmem] at hz
     simp only [Option.some.injEq, O.mem.injEq] at hz
     obtain ⟨rfl, _, _⟩ := hz
     refine ⟨b', d, k1, ?_⟩
     rw [k2, add_plain', hei.size]
     simp only [Addr.mk.injEq, and_true, true_and]
     omega
   · rename_i cs0 hbox
     simp only [Option.some.injEq, Prod.mk.injEq] at h
     obtain ⟨rfl, rfl, _⟩ := h
     refine out_pure hH he hrun ?_
     refine .ptr _ _ _ _ _ g1 g2 (fun cs hcs => ?_) (fun z' xs' hz => by rw [hbox] at hz; simp at hz)
     obtain ⟨b', k1, k2⟩ := g3 cs hcs
     exact ⟨b', k1, fun hel => by rw [k2 hel, add_plain', hei.size]⟩
   · simp at h
 · simp at h
theorem run_index_arr {T : TypeId -> Option Ty} (hT : ∀ t y, T t = some y -> tyOf P t = some y) {t e : TypeId} {y ye : Ty} (hy : T t = some y) {m : Nat} (hk : y.k = .array m e) (hye : T e = some ye) {n : Nat} (hn : n < m) {us : Array Value} {k : IntKind} (hfit : n * ye.size + ye.size <= us.size) (h1 : ye.k.agg = false -> ye.size = 1) :
   (Instr.index t (.agg us) (.int k (n : Int))).run P w = .ok (valOf P e ((us.toList.drop (n * ye.size)).take ye.size)) w := by
 obtain ⟨i, d, hi⟩ := get_wf hT hy
 have hd := kOf_array (hk.symm.trans hi.k)
 subst hd
 obtain ⟨ei, ed, hei⟩ := get_wf hT hye
 have hs : sizeAt P e = ye.size := by simp [sizeAt, hei.info, hei.size]
 have hp := run_part (P := P) (w := w) hei.info hei.und us.toList (n * ye.size) (by rw [hs]; simp; omega) (fun ha => by rw [hs]; exact h1 (by rw [<- aggAt_k hei]; exact ha))
 rw [hs] at hp
 simp only [Array.toArray_toList] at hp
 unfold Instr.index
 simp only [Sem.run_bind, asIntOf, Sem.run_pure, Result.andThen_ok, run_underlying hi.und]
 rw [if_pos (by omega)]
 simp only [Sem.run_bind, run_sizeOf hei.info, Result.andThen_ok, Int.toNat_natCast, <- hei.size]
 exact hp
theorem indexV_out {T : TypeId -> Option Ty} (hT : ∀ t y, T t = some y -> tyOf P t = some y) (hH : RepH w A bl H) {o : Oper} {t : TypeId} {x ix : Operand} (ho : o.op = .index t x ix) {v0 vi : V} (hr : RepV w A bl H v0 (a.eval x)) (hi : RepV w A bl H vi (a.eval ix)) {v : V} {H' : Hp} {k : Nat} (h : indexV T H t v0 vi = some (v, H', k)) : Out P a o w A bl H v H' := by
 have he : (execOp a.eval o).run P w = (do pure (Next.value (← Instr.index t (a.eval x) (a.eval ix))) : Sem Next).run P w := by simp [execOp, ho]
 unfold indexV at h
 split at h
 case h_2 => simp at h
 rename_i kn n
 split at h
 case isFalse => simp at h
 rename_i h0
 have hix := hi.int_inv
 rw [hix] at he
 obtain ⟨m, rfl⟩ := Int.eq_ofNat_of_zero_le h0
 simp only [Int.toNat_natCast] at h
 split at h
 case h_1 => simp at h
 rename_i y hy
 split at h
 · rename_i s hk
   split at h <;> simp only [Option.some.injEq, Prod.mk.injEq, reduceCtorEq] at h
   rename_i b hb
   obtain ⟨rfl, rfl, _⟩ := h
   rw [hr.str_inv] at he
   exact out_pure hH he (op_index_str hT hy hk hb) (.int _ _)
 · rename_i m' e xs hk
   split at h
   case isFalse => simp at h
   rename_i hlt
   split at h
   case h_2 => simp at h
   rename_i ye hye
   split at h
   case h_2 => simp at h
   rename_i l hl
   obtain ⟨h1, rfl⟩ := pureR_inv h
   obtain ⟨us, hus, hxl, hxr⟩ := hr.agg_inv
   obtain ⟨p1, p2, p3⟩ := part_len hl
   rw [hus] at he
   obtain ⟨ei, ed, hei⟩ := get_wf hT hye
   refine out_pure hH he (run_index_arr hT hy hk hye (n := m) (by omega) (by omega) (fun hk0 => by rw [<- p3]; exact ofCells_one h1 hk0)) ?_
   refine ofCells_rep (P := P) (t := e) h1 ?_ (aggAt_k hei)
   subst p2
   exact RepL.take (RepL.drop ⟨by simpa using hxl, fun j x u hj hu => hxr j x u hj (by simpa using hu)⟩ _) _
 · simp at h
theorem op0_sound {T : TypeId -> Option Ty} (hT : ∀ t y, T t = some y -> tyOf P t = some y) (hH : RepH w A bl H) (hF : RepF w A bl H fr a.tmps) {own : Nat -> Bool} {o : Oper} {v : V} {H' : Hp} {k : Nat} (h : op0 T own fr H o = some (v, H', k)) : Out P a o w A bl H v H' := by
 unfold op0 at h
 split at h
 · rename_i x ho
   split at h
   case h_2 => simp at h
   rename_i v0 hv0
   exact moveV_out hH (by simp [execOp, ho]) (opd_rep hF hv0) h
 · rename_i x ho
   split at h
   case h_2 => simp at h
   rename_i v0 hv0
   exact moveV_out hH (by simp [execOp, ho]) (opd_rep hF hv0) h
 · rename_i c x y ho
   split at h
   case h_2 => simp at h
   rename_i t hc
   obtain ⟨h1, rfl⟩ := pureR_inv h
   have hcv := (opd_rep hF hc).bool_inv
   refine Out.pure hH (r := if t then a.eval x else a.eval y) ?_ ?_
   · simp [execOp, ho, hcv, asBool]
   · cases t
     · exact opd_rep hF (by simpa using h1)
     · exact opd_rep hF (by simpa using h1)
 · rename_i t x ho
   split at h
   case h_2 => simp at h
   rename_i v0 hv0
   exact boxV_out hH ho (opd_rep hF hv0) h
 · rename_i t ho
   exact allocV_out hT hH ho h
 · rename_i t ps ho
   split at h
   case h_2 => simp at h
   rename_i l hl
   exact buildV_out hT hH hF ho hl h
 · rename_i t n ps ho
   split at h
   case h_2 => simp at h
   rename_i l hl
   exact buildSliceV_out hT hH hF ho hl h
 · rename_i t x ho
   split at h
   case h_2 => simp at h
   rename_i v0 hv0
   unfold loadR at h
   split at h
   case h_1 => simp at h
   rename_i y hy
   split at h <;> simp only [Option.some.injEq, Prod.mk.injEq, reduceCtorEq] at h
   rename_i v1 hv1
   obtain ⟨rfl, rfl, _⟩ := h
   obtain ⟨r, hr, hrep⟩ := loadV_run (P := P) hT hH hy hv1 (opd_rep hF hv0)
   exact out_pure hH (by simp [execOp, ho]) hr hrep
 · rename_i t x y ho
   split at h
   case h_2 => simp at h
   rename_i v0 v1 hv0 hv1
   unfold storeR at h
   split at h
   case h_1 => simp at h
   rename_i ty hty
   split at h <;> simp only [Option.some.injEq, Prod.mk.injEq, reduceCtorEq] at h
   rename_i hp' hhp
   obtain ⟨rfl, rfl, _⟩ := h
   obtain ⟨w', hr, q1, q2, q3⟩ := storeV_run (P := P) hT hH hty hhp (opd_rep hF hv0) (opd_rep hF hv1)
   exact ⟨undef, w', A, bl, .inr ⟨by simp [execOp, ho, hr], rfl⟩, .undef, q1, q2, q3⟩
 · rename_i x ho
   split at h
   case h_2 => simp at h
   rename_i v0 hv0
   exact nilCheckV_out hH ho (opd_rep hF hv0) h
 · rename_i op t x y ty ho
   split at h
   case h_2 => simp at h
   rename_i v0 v1 hv0 hv1
   obtain ⟨h1, rfl⟩ := pureR_inv h
   obtain ⟨r, hr, hrep⟩ := bin_run (P := P) hT h1 (opd_rep hF hv0) (opd_rep hF hv1) x y
   exact out_pure hH (by simp [execOp, ho]) hr hrep
 · rename_i op t x ho
   split at h
   case h_2 => simp at h
   rename_i v0 hv0
   obtain ⟨h1, rfl⟩ := pureR_inv h
   obtain ⟨r, hr, hrep⟩ := un_run (P := P) (w := w) h1 (opd_rep hF hv0)
   exact out_pure hH (by simp [execOp, ho]) hr hrep
 · rename_i s d x ho
   split at h
   case h_2 => simp at h
   rename_i v0 hv0
   obtain ⟨h1, rfl⟩ := pureR_inv h
   obtain ⟨r, hr, hrep⟩ := conv_run (P := P) (w := w) hT h1 (opd_rep hF hv0)
   exact out_pure hH (by simp [execOp, ho]) hr hrep
 · rename_i f first caps ho
   split at h
   case isFalse => simp at h
   rename_i hf
   split at h <;> simp only [Option.some.injEq, Prod.mk.injEq, reduceCtorEq] at h
   rename_i l hl
   obtain ⟨rfl, rfl, _⟩ := h
   obtain ⟨h1, h2⟩ := opdL_arr hF hl
   obtain rfl : first = #[] := Array.eq_empty_of_size_eq_zero hf
   exact Out.pure hH (by simp [execOp, ho, Instr.makeFunc]) (.fn f l _ h1 h2)
 · rename_i t n c ho
   split at h
   case h_2 => simp at h
   rename_i v0 v1 hv0 hv1
   exact makeSliceV_out hT hH ho (opd_rep hF hv0) (opd_rep hF hv1) h
 · rename_i t x lo hi mx ho
   split at h
   case h_2 => simp at h
   rename_i v0 lo' hi' mx' hv0 hlo hhi hmx
   exact sliceV_out hT hH (by simp [execOp, ho]) (opd_rep hF hv0) (bnd_map hF hlo) (bnd_map hF hhi) (bnd_map hF hmx) h
 · rename_i s x f ho
   split at h
   case h_2 => simp at h
   rename_i v0 hv0
   exact fieldAddrV_out hT hH ho (opd_rep hF hv0) h
 · rename_i s x f ho
   split at h
   case h_2 => simp at h
   rename_i v0 hv0
   exact fieldV_out hT hH ho (opd_rep hF hv0) h
 · rename_i t x ix ho
   split at h
   case h_2 => simp at h
   rename_i v0 v1 hv0 hv1
   exact indexAddrV_out hT hH ho (opd_rep hF hv0) (opd_rep hF hv1) h
 · rename_i t x ix ho
   split at h
   case h_2 => simp at h
   rename_i v0 v1 hv0 hv1
   exact indexV_out hT hH ho (opd_rep hF hv0) (opd_rep hF hv1) h
 · rename_i x i ho
   split at h
   case h_2 => simp at h
   rename_i vs hvs
   obtain ⟨h1, rfl⟩ := pureR_inv h
   obtain ⟨us, hus, hl, hr⟩ := (opd_rep hF hvs).tup_inv
   have hlt := (List.getElem?_eq_some_iff.1 h1).1
   refine Out.pure hH (r := us[i]'(by omega)) ?_ (hr i v _ h1 (by simp))
   simp [execOp, ho, Instr.extract, hus, show i < us.size by omega]
 · rename_i b args ts ho
   split at h
   case h_2 => simp at h
   rename_i l hl
   have he := run_call_builtin (P := P) (w := w) (a := a) ho
   obtain ⟨h1, h2⟩ := opdL_arr hF hl
   generalize hus : args.map a.eval = us at he h1 h2
   unfold bltn at h
   split at h
   · -- len
     split at h
     case h_2 => simp at h
     rename_i t x hts
     split at h <;> simp only [Option.some.injEq, Prod.mk.injEq, reduceCtorEq] at h
     rename_i n hn
     obtain ⟨rfl, rfl, _⟩ := h
     obtain ⟨u, rfl⟩ : ∃ u, us = #[u] := by
       obtain ⟨l⟩ := us
       match l, h1 with
       | [u], _ => exact ⟨u, rfl⟩
     have hts' : ts = #[t] := by apply Array.ext'; simpa using hts
     subst hts'
     exact out_pure (s := Builtin.len_ #[t] o.type #[u]) hH (by rw [he]; rfl) (lenV_run hT hn (h2 0 x u rfl (by simp)) _) (.int _ _)
   · -- append
     split at h
     case h_2 => simp at h
     rename_i t tx d s hts
     unfold appB at h
     split at h
     case h_2 => simp at h
     rename_i y yx hy hyx
     split at h
     case h_2 => simp at h
     rename_i e hk
     split at h
     case h_2 => simp at h
     rename_i ye hye
     split at h
     case isFalse => simp at h
     rename_i hc
     obtain ⟨c1, c2, c3⟩ := hc
     obtain ⟨u, u', rfl⟩ : ∃ u u', us = #[u, u'] := by
       obtain ⟨l⟩ := us
       match l, h1 with
       | [u, u'], _ => exact ⟨u, u', rfl⟩
     have hts' : ts = #[t, tx] := by apply Array.ext'; simpa using hts
     subst hts'
     obtain ⟨ix, dx, hix⟩ := get_wf hT hyx
     have htx : (∃ e', P.underlying tx = some (.slice e')) \/ P.underlying tx = some .string := by
       unfold K.src at c3
       split at c3
       · rename_i e' hkx; exact .inl ⟨e', by rw [hix.und, kOf_slice (hkx.symm.trans hix.k)]⟩
       · rename_i hkx; exact .inr (by rw [hix.und, kOf_str (hkx.symm.trans hix.k)])
       · simp at c3
     obtain ⟨r, w', hr, bl', q1, q2, q3, q4⟩ := appendV_run (P := P) (ty := o.type) hT hH hy hk hye c1 c2 htx h (h2 0 d u rfl (by simp)) (h2 1 s u' rfl (by simp))
     exact out_of_run (s := Builtin.append_ #[t, tx] o.type #[u, u']) (by rw [he]; rfl) hr q1 q2 q3 q4
   · -- cap
     split at h
     case h_2 => simp at h
     rename_i t x hts
     unfold pureR at h
     split at h <;> simp only [Option.some.injEq, Prod.mk.injEq, reduceCtorEq] at h
     rename_i v1 hv1
     obtain ⟨rfl, rfl, _⟩ := h
     obtain ⟨u, rfl⟩ : ∃ u, us = #[u] := by
       obtain ⟨l⟩ := us
       match l, h1 with
       | [u], _ => exact ⟨u, rfl⟩
     have hts' : ts = #[t] := by apply Array.ext'; simpa using hts
     subst hts'
     unfold capV at hv1
     split at hv1
     case h_2 => simp at hv1
     rename_i sz nl xs
     split at hv1
     case h_2 => simp at hv1
     rename_i y hy
     split at hv1 <;> simp only [Option.some.injEq, reduceCtorEq] at hv1
     rename_i e hk
     subst hv1
     obtain ⟨i, dd, hi⟩ := get_wf hT hy
     have hd : dd = .slice e := kOf_slice (hk.symm.trans hi.k)
     subst hd
     have hcap : (Builtin.cap_ #[t] o.type #[u]).run P w = .ok (.int .i64 xs.length) w := by
       rcases (h2 0 _ u rfl (by simp)).sl_inv with ⟨rfl, rfl, _⟩ | ⟨b, cap, vs, rfl, _, _, hc, _⟩
       · simp [Builtin.cap_, run_underlying hi.und, goInt]
       · simp [Builtin.cap_, run_underlying hi.und, goInt, hc rfl]
     exact out_pure (s := Builtin.cap_ #[t] o.type #[u]) hH (by rw [he]; rfl) hcap (.int _ _)
   · -- max
     split at h
     case h_2 => simp at h
     rename_i x r
     split at h <;> simp only [Option.some.injEq, Prod.mk.injEq, reduceCtorEq] at h
     rename_i v1 hv1
     obtain ⟨rfl, rfl, _⟩ := h
     obtain ⟨u, us', rfl⟩ : ∃ u us', us = (u :: us').toArray := by
       obtain ⟨l⟩ := us
       match l, h1 with
       | u :: l, _ => exact ⟨u, l, rfl⟩
     obtain ⟨q, q1, q2⟩ := minMax_run (P := P) (gt := true) hv1 (h2 0 x u rfl (by simp)) (us := us') (by simpa using h1) (fun j x u hj hu => h2 (j + 1) x u (by simpa using hj) (by simpa using hu))
     exact out_pure (s := Builtin.max_ ts o.type (u :: us').toArray) hH (by rw [he]; rfl) (by simpa [Builtin.max_] using q1) q2
   · split at h
     case h_2 => simp at h
     rename_i x r
     split at h <;> simp only [Option.some.injEq, Prod.mk.injEq, reduceCtorEq] at h
     rename_i v1 hv1
     obtain ⟨rfl, rfl, _⟩ := h
     obtain ⟨u, us', rfl⟩ : ∃ u us', us = (u :: us').toArray := by
       obtain ⟨l⟩ := us
       match l, h1 with
       | u :: l, _ => exact ⟨u, l, rfl⟩
     obtain ⟨q, q1, q2⟩ := minMax_run (P := P) (gt := false) hv1 (h2 0 x u rfl (by simp)) (us := us') (by simpa using h1) (fun j x u hj hu => h2 (j + 1) x u (by simpa using hj) (by simpa using hu))
     exact out_pure (s := Builtin.min_ ts o.type (u :: us').toArray) hH (by rw [he]; rfl) (by simpa [Builtin.min_] using q1) q2
   · simp at h
 · simp at h
end
end Go.Ev
namespace Go.Ev
section
variable {P : Program} {w w' : World} {A A' : Nat -> Prop} {bl bl' : Bl} {H H' : Hp} {fr : Fr} {a : Act} {ρ : Nat -> Option Nat}
theorem renL_map : ∀ {l : List V}, renL ρ l = l.map (V.ren ρ)
 | [] => rfl
 | v :: r => by simp [renL, renL_map (l := r)]
theorem renL_get {l : List V} {j : Nat} {x : V} (h : (renL ρ l)[j]? = some x) : ∃ y, l[j]? = some y /\ x = y.ren ρ := by
 rw [renL_map, List.getElem?_map, Option.map_eq_some_iff] at h
 obtain ⟨y, h1, h2⟩ := h
 exact ⟨y, h1, h2.symm⟩
theorem renH_map : ∀ {l : Hp}, renH ρ l = l.map (O.ren ρ)
 | [] => rfl
 | v :: r => by simp [renH, renH_map (l := r)]
structure RenOk (ρ : Nat -> Option Nat) (bl : Bl) (H : Hp) (bl' : Bl) (H' : Hp) : Prop where
 at_ : ∀ i j, ρ i = some j -> i < H.length -> j < H'.length /\ bl' j = bl i /\ ∀ o', H'[j]? = some o' -> ∃ o, H[i]? = some o /\ o' = o.ren ρ
theorem O.ren_mem {o : O} {z e : Nat} {xs : List (List C)} (h : O.mem z e xs = o.ren ρ) : o = .mem z e xs := by
 cases o <;> simp [O.ren] at h; simp [h]
theorem O.ren_box {o : O} {cs : List V} (h : O.box cs = o.ren ρ) : ∃ cs0, o = .box cs0 /\ cs = renL ρ cs0 := by
 cases o <;> simp [O.ren] at h
 exact ⟨_, rfl, h⟩
theorem O.ren_yo {o : O} {r : List (List V)} {t : Bool} (h : O.yo r t = o.ren ρ) : o = .yo r t := by
 cases o <;> simp [O.ren] at h; simp [h]
theorem RepV.ren (hr : RenOk ρ bl H bl' H') {v : V} {u : Value} (h : RepV w A bl H v u) : RepV w A bl' H' (v.ren ρ) u := by
 induction h with
 | junk => exact .junk _
 | undef => exact .undef
 | c x v h => exact .c _ _ h
 | fp cs a h1 h2 => exact .fp _ _ h1 h2
 | buf i ep off len a l cap h1 h2 h3 =>
   simp only [V.ren]
   cases hρ : ρ i with
   | none => exact .junk _
   | some j =>
     obtain ⟨g1, g2, g3⟩ := hr.at_ i j hρ h1
     refine .buf _ _ _ _ _ _ _ g1 (fun z e xs hj => ?_) (fun z xs hj => ?_)
     · obtain ⟨o, k1, k2⟩ := g3 _ hj
       rw [O.ren_mem k2] at k1
       exact h2 _ _ _ k1
     · obtain ⟨o, k1, k2⟩ := g3 _ hj
       rw [O.ren_mem k2] at k1
       obtain ⟨q1, q2, q3, q4⟩ := h3 _ _ k1
       exact ⟨q1, q2, q3, fun hc => by rw [g2]; exact q4 hc⟩
 | ptr i ep el o a h1 h2 h3 h4 =>
   simp only [V.ren]
   cases hρ : ρ i with
   | none => exact .junk _
   | some j =>
     obtain ⟨g1, g2, g3⟩ := hr.at_ i j hρ h1
     refine .ptr _ _ _ _ _ g1 (fun z e xs hj => ?_) (fun cs hj => ?_) (fun z xs hj => ?_)
     · obtain ⟨o, k1, k2⟩ := g3 _ hj
       rw [O.ren_mem k2] at k1
       exact h2 _ _ _ k1
     · obtain ⟨o, k1, k2⟩ := g3 _ hj
       obtain ⟨cs0, rfl, _⟩ := O.ren_box k2
       rw [g2]; exact h3 _ k1
     · obtain ⟨o, k1, k2⟩ := g3 _ hj
       rw [O.ren_mem k2] at k1
       rw [g2]; exact h4 _ _ k1
 | yl i b h1 h2 =>
   simp only [V.ren]
   cases hρ : ρ i with
   | none => exact .junk _
   | some j =>
     obtain ⟨g1, g2, g3⟩ := hr.at_ i j hρ h1
     refine .yl _ _ g1 fun r s hj => ?_
     obtain ⟨o, k1, k2⟩ := g3 _ hj
     rw [O.ren_yo k2] at k1
     rw [g2]; exact h2 _ _ k1
 | fn f caps vs h1 _ ih =>
   refine .fn _ _ _ (by rw [renL_map]; simpa using h1) fun j x u hj hu => ?_
   obtain ⟨y, k1, rfl⟩ := renL_get hj
   exact ih j y u k1 hu
 | agg xs vs h1 _ ih =>
   refine .agg _ _ (by rw [renL_map]; simpa using h1) fun j x u hj hu => ?_
   obtain ⟨y, k1, rfl⟩ := renL_get hj
   exact ih j y u k1 hu
 | tup xs vs h1 _ ih =>
   refine .tup _ _ (by rw [renL_map]; simpa using h1) fun j x u hj hu => ?_
   obtain ⟨y, k1, rfl⟩ := renL_get hj
   exact ih j y u k1 hu
theorem RepO.ren (hr : RenOk ρ bl H bl' H') (hX : bl'.X = bl.X) (hc : bl'.cx = bl.cx) {i j : Nat} (hb : bl' j = bl i) {o : O} (h : RepO w A bl H i o) : RepO w A bl' H' j (o.ren ρ) := by
 cases o with
 | gone => trivial
 | yo r s =>
   obtain ⟨b, h1, h2⟩ := h
   exact ⟨b, hb.trans h1, by rw [hX, hc]; exact h2⟩
 | box cs =>
   obtain ⟨b, arr, t, h1, h2, h3, h4⟩ := h
   refine ⟨b, arr, t, hb.trans h1, h2, by rw [renL_map]; simpa using h3, fun j x u hj hu => ?_⟩
   obtain ⟨y, k1, rfl⟩ := renL_get hj
   exact (h4 j y u k1 hu).ren hr
 | mem z e xs =>
   obtain ⟨h1, h2, h3⟩ := h
   exact ⟨h1, fun hn => h2 (hb ▸ hn), fun b d hb' => h3 b d (hb ▸ hb')⟩
theorem idx_some : ∀ {l : List Nat} {i k : Nat}, idx l i = some k -> l[k]? = some i
 | [], i, k, h => by simp [idx] at h
 | j :: r, i, k, h => by
   unfold idx at h
   split at h
   · simp only [Option.some.injEq] at h; subst h; simp [*]
   · split at h <;> simp only [Option.some.injEq, reduceCtorEq] at h
     subst h
     simpa using idx_some ‹_›
theorem distinct_inj : ∀ {l : List Nat}, distinct l = true -> ∀ {k k' i : Nat}, l[k]? = some i -> l[k']? = some i -> k = k'
 | [], _, k, k', i, h, _ => by simp at h
 | j :: r, hd, k, k', i, h, h' => by
   simp only [distinct, Bool.and_eq_true, Bool.not_eq_true'] at hd
   have hn : j ∉ r := by simpa using hd.1
   cases k with
   | zero =>
     cases k' with
     | zero => rfl
     | succ k' =>
       simp at h h'
       subst h
       exact absurd (List.mem_of_getElem? h') hn
   | succ k =>
     cases k' with
     | zero =>
       simp at h h'
       subst h'
       exact absurd (List.mem_of_getElem? h) hn
     | succ k' =>
       simp at h h'
       rw [distinct_inj hd.2 h h']
theorem take_at : ∀ {l : List Nat} {keep : List Nat} {h0 : Hp}, take keep H l = some h0 -> h0.length = l.length /\ ∀ (k i : Nat), l[k]? = some i -> ∃ o, H[i]? = some o /\ h0[k]? = some (o.ren (idx keep))
 | [], keep, h0, h => by
   simp only [take, Option.some.injEq] at h
   subst h
   exact ⟨rfl, fun k i hk => by simp at hk⟩
 | j :: r, keep, h0, h => by
   simp only [take] at h
   split at h <;> simp only [Option.some.injEq, reduceCtorEq] at h
   rename_i o l ho hl
   subst h
   obtain ⟨g1, g2⟩ := take_at hl
   refine ⟨by simp [g1], fun k i hk => ?_⟩
   cases k with
   | zero => simp at hk; subst hk; exact ⟨o, ho, rfl⟩
   | succ k => simp at hk; simpa using g2 k i hk
def subBl (bl : Bl) (keep : List Nat) : Bl := { bl with loc := fun k => match keep[k]? with
 | some i => bl i
 | none => none }
theorem sub_ren {keep : List Nat} {h0 : Hp} (ht : take keep H keep = some h0) : RenOk (idx keep) bl H (subBl bl keep) h0 := by
 obtain ⟨g1, g2⟩ := take_at ht
 refine ⟨fun i j hij _ => ?_⟩
 have hj := idx_some hij
 obtain ⟨o, k1, k2⟩ := g2 j i hj
 refine ⟨by rw [g1]; exact (List.getElem?_eq_some_iff.1 hj).1, by simp [subBl, hj], fun o' ho' => ?_⟩
 rw [k2] at ho'
 simp only [Option.some.injEq] at ho'
 exact ⟨o, k1, ho'.symm⟩
theorem O.ren_live {o : O} : (o.ren ρ).live = o.live := by cases o <;> rfl
theorem sub_alive {keep : List Nat} {h0 : Hp} (ht : take keep H keep = some h0) {k : Nat} (h : alive h0 k) : ∃ i, keep[k]? = some i /\ alive H i := by
 obtain ⟨g1, g2⟩ := take_at ht
 obtain ⟨o, h1, h2⟩ := h
 have hk : k < keep.length := by rw [<- g1]; exact (List.getElem?_eq_some_iff.1 h1).1
 obtain ⟨o', k1, k2⟩ := g2 k keep[k] (by simp [hk])
 rw [k2] at h1
 simp only [Option.some.injEq] at h1
 subst h1
 exact ⟨keep[k], by simp [hk], o', k1, by rw [<- h2, O.ren_live]⟩
theorem sub_rep (hH : RepH w A bl H) {keep : List Nat} {h0 : Hp} (ht : take keep H keep = some h0) (hd : distinct keep = true) : RepH w A (subBl bl keep) h0 := by
 obtain ⟨g1, g2⟩ := take_at ht
 have hr := sub_ren (bl := bl) ht
 refine ⟨fun k o hk => ?_, fun k k' b d d' hne ha ha' hb hb' => ?_, fun k b d ha hb => ?_, hH.alt, hH.xlt, fun k b d ha hb => ?_, hH.base⟩
 · have hlt : k < keep.length := by rw [<- g1]; exact (List.getElem?_eq_some_iff.1 hk).1
   obtain ⟨o', k1, k2⟩ := g2 k keep[k] (by simp [hlt])
   rw [k2] at hk
   simp only [Option.some.injEq] at hk
   subst hk
   exact (hH.obj _ _ k1).ren hr rfl rfl (by simp [subBl, hlt])
 · obtain ⟨i, k1, k2⟩ := sub_alive ht ha
   obtain ⟨i', k3, k4⟩ := sub_alive ht ha'
   simp only [subBl, k1, k3] at hb hb'
   refine hH.inj i i' b d d' (fun e => hne ?_) k2 k4 hb hb'
   subst e
   exact distinct_inj hd k1 k3
 · obtain ⟨i, k1, k2⟩ := sub_alive ht ha
   simp only [subBl, k1] at hb
   exact hH.lt i b d k2 hb
 · obtain ⟨i, k1, k2⟩ := sub_alive ht ha
   simp only [subBl, k1] at hb
   exact hH.xinj i b d k2 hb
theorem sub_liv {keep : List Nat} {h0 : Hp} (ht : take keep H keep = some h0) {b : Nat} (h : Liv (subBl bl keep) h0 b) : Liv bl H b := by
 rcases h with ⟨k, d, ha, hb⟩ | h
 · obtain ⟨i, k1, k2⟩ := sub_alive ht ha
   simp only [subBl, k1] at hb
   exact .inl ⟨i, d, k2, hb⟩
 · exact .inr h
def Bl.noX (bl : Bl) : Bl := { bl with X := fun _ => False }
theorem noYo_at : ∀ {H : Hp}, noYo H = true -> ∀ (i : Nat) (r : List (List V)) (s : Bool), H[i]? ≠ some (.yo r s)
 | [], _, i, r, s, h => by simp at h
 | o :: l, hn, i, r, s, h => by
   cases i with
   | zero => simp at h; subst h; simp [noYo] at hn
   | succ i =>
     simp at h
     have : noYo l = true := by cases o <;> simp_all [noYo]
     exact noYo_at this i r s h
theorem noX_le : Le w A bl H w A bl.noX H :=
 ⟨fun _ _ => rfl, fun _ h => h, Nat.le_refl _, fun _ _ _ _ _ h => ⟨_, _, h, Nat.le_refl _, fun _ => ⟨rfl, rfl⟩⟩, fun _ _ _ h => ⟨_, h, rfl⟩, fun _ _ _ _ h => ⟨_, _, h, rfl⟩, rfl, fun _ _ _ _ _ _ _ _ _ _ _ h => h⟩
theorem RepO.setX {X : Nat -> Prop} {i : Nat} {o : O} (hn : ∀ r s, o ≠ .yo r s) (h : RepO w A bl H i o) : RepO w A { bl with X := X } H i o := by
 have hl : Le w A bl H w A { bl with X := X } H :=
   ⟨fun _ _ => rfl, fun _ h => h, Nat.le_refl _, fun _ _ _ _ _ h => ⟨_, _, h, Nat.le_refl _, fun _ => ⟨rfl, rfl⟩⟩, fun _ _ _ h => ⟨_, h, rfl⟩, fun _ _ _ _ h => ⟨_, _, h, rfl⟩, rfl, fun _ _ _ _ _ _ _ _ _ _ _ h => h⟩
 cases o with
 | gone => trivial
 | yo r s => exact absurd rfl (hn r s)
 | box cs =>
   obtain ⟨b, arr, t, h1, h2, h3, h4⟩ := h
   exact ⟨b, arr, t, h1, h2, h3, fun j x u hj hu => (h4 j x u hj hu).mono hl⟩
 | mem z e xs => exact h
theorem noX_rep (hH : RepH w A bl H) (hn : noYo H = true) : RepH w A bl.noX H :=
 ⟨fun i o hi => (hH.obj i o hi).setX fun r s e => noYo_at hn i r s (e ▸ hi), hH.inj, hH.lt, hH.alt, fun _ h => h.elim, fun _ _ _ _ _ h => h, hH.base⟩
theorem noX_liv {b : Nat} (h : Liv bl.noX H b) : Liv bl H b := h.elim .inl False.elim
theorem takeC_some {keep : List Nat} {h0 : Hp} (h : takeC keep H = some h0) : take keep H keep = some h0 /\ noYo h0 = true := by
 unfold takeC at h
 split at h
 · split at h
   · simp only [Option.some.injEq] at h; subst h; exact ⟨‹_›, ‹_›⟩
   · simp at h
 · simp at h
theorem frzL_map {p : Nat -> Bool} : ∀ {l : List V}, frzL H p l = l.map (V.frz H p)
 | [] => rfl
 | v :: r => by simp [frzL, frzL_map (l := r)]
theorem frzL_get {p : Nat -> Bool} {l : List V} {j : Nat} {x : V} (h : (frzL H p l)[j]? = some x) : ∃ y, l[j]? = some y /\ x = y.frz H p := by
 rw [frzL_map, List.getElem?_map, Option.map_eq_some_iff] at h
 obtain ⟨y, h1, h2⟩ := h
 exact ⟨y, h1, h2.symm⟩
theorem frzK_at {p : Nat -> Bool} : ∀ {l : Hp} {k i : Nat}, (frzK p H k l)[i]? = (l[i]?).map fun o => if p (k + i) then .gone else o.frz H p
 | [], k, i => by simp [frzK]
 | o :: r, k, i => by
   cases i with
   | zero => simp [frzK]
   | succ i =>
     simp only [frzK, List.getElem?_cons_succ, frzK_at (l := r) (k := k + 1)]
     rw [show k + 1 + i = k + (i + 1) by omega]
theorem frzH_at {p : Nat -> Bool} {i : Nat} : (frzH p H)[i]? = (H[i]?).map fun o => if p i then .gone else o.frz H p := by
 unfold frzH; rw [frzK_at]; simp
theorem frzH_len {p : Nat -> Bool} : (frzH p H).length = H.length := by
 have : ∀ (l : Hp) (k : Nat), (frzK p H k l).length = l.length := by
   intro l
   induction l with
   | nil => intro k; rfl
   | cons o r ih => intro k; simp [frzK, ih]
 exact this H 0
theorem O.frz_live {p : Nat -> Bool} {o : O} : (o.frz H p).live = o.live := by cases o <;> rfl
theorem frz_alive {p : Nat -> Bool} {i : Nat} (h : alive (frzH p H) i) : p i = false /\ alive H i := by
 obtain ⟨o, h1, h2⟩ := h
 rw [frzH_at, Option.map_eq_some_iff] at h1
 obtain ⟨o', k1, k2⟩ := h1
 split at k2
 · subst k2; simp [O.live] at h2
 · subst k2
   rw [O.frz_live] at h2
   exact ⟨by simp_all, o', k1, h2⟩
def frzA (A : Nat -> Prop) (bl : Bl) (H : Hp) (p : Nat -> Bool) (b : Nat) : Prop := A b \/ ∃ i d, p i = true /\ alive H i /\ bl i = some (b, d)
theorem RepV.frz (hH : RepH w A bl H) {p : Nat -> Bool} {v : V} {u : Value} (h : RepV w A bl H v u) : RepV w (frzA A bl H p) bl (frzH p H) (v.frz H p) u := by
 have hA : ∀ b, A b -> frzA A bl H p b := fun b hb => .inl hb
 induction h with
 | junk => exact .junk _
 | undef => exact .undef
 | c x v h => exact .c _ _ (h.mono (fun _ _ => rfl) hA)
 | fp cs a h1 h2 =>
   refine .fp _ _ h1 fun j x hj => ?_
   obtain ⟨k1, u, k2, k3⟩ := h2 j x hj
   exact ⟨hA _ k1, u, k2, k3.mono (fun _ _ => rfl) hA⟩
 | buf i ep off len a l cap h1 h2 h3 =>
   simp only [V.frz]
   cases hp : p i with
   | true =>
     simp only [if_true]
     unfold frz1
     split
     · rename_i z e xs hmem
       split
       · rename_i he
         subst he
         obtain ⟨q1, rfl, ⟨q3, q5, q6⟩, q4⟩ := h3 _ _ hmem
         obtain ⟨r1, r2, r3⟩ := hH.obj _ _ hmem
         have hlen : ((xs.drop off).take l).length = l := by simp; omega
         cases a with
         | none =>
           have hc := q6 rfl
           subst hc
           have hl : l = 0 := by omega
           subst hl
           simp only [List.take_zero]
           exact .c _ _ (.slnil _ _ _ (by simp))
         | some a0 =>
           have := RepC.sl (w := w) (A := frzA A bl H p) z none false ((xs.drop off).take l) a0 cap (fun k j => (w.cell? ⟨a0.block, a0.off + k * z + j, none⟩).getD Go.undef) (fun h => q5 h _ rfl) (by simp) (by simp) (by omega)
             (fun cs hcs => r1 cs (List.mem_of_mem_drop (List.mem_of_mem_take hcs))) ?_ ?_
           · rw [hlen] at this; exact .c _ _ this
           all_goals
             intro k j cs x hk hj
             have hk' := (List.getElem?_eq_some_iff.1 hk).1
             have hcap : cap ≠ 0 := by omega
             obtain ⟨b, d, n, s1, s2, s3, s4⟩ := q4 hcap
             simp only [Option.some.injEq] at s2
             subst s2
             obtain ⟨arr, t, t1, t2, t3⟩ := r3 b d s1
             have hx : xs[off + k]? = some cs := by
               rw [List.getElem?_take, List.getElem?_drop] at hk
               split at hk <;> simp_all
             obtain ⟨u, u1, u2⟩ := t3 (off + k) j cs x hx hj
             have hcell : w.cell? ⟨b, d + off * z + k * z + j, none⟩ = some u := by
               rw [cell_of_heap t1, <- u1]; congr 1; rw [Nat.add_mul]; omega
           · exact ⟨.inr ⟨i, d, hp, ⟨_, hmem, rfl⟩, s1⟩, by rw [hcell]; rfl⟩
           · rw [hcell]; exact u2.mono (fun _ _ => rfl) hA
       · exact .junk _
     · exact .junk _
   | false =>
     simp only [Bool.false_eq_true, if_false]
     have at_ : ∀ {z e : Nat} {xs : List (List C)}, (frzH p H)[i]? = some (.mem z e xs) -> H[i]? = some (.mem z e xs) := by
       intro z e xs h
       rw [frzH_at, Option.map_eq_some_iff] at h
       obtain ⟨o, k1, k2⟩ := h
       simp only [hp, Bool.false_eq_true, if_false] at k2
       cases o <;> simp [O.frz] at k2
       rw [k1]; simp [k2]
     exact .buf _ _ _ _ _ _ _ (by rw [frzH_len]; exact h1) (fun z e xs h => h2 _ _ _ (at_ h)) (fun z xs h => h3 _ _ (at_ h))
 | ptr i ep el o a h1 h2 h3 h4 =>
   simp only [V.frz]
   cases hp : p i with
   | true =>
     simp only [if_true]
     unfold frzP
     split
     · rename_i cs hbox
       split
       · rename_i he
         split
         · rename_i xs hxs
           obtain ⟨b, q1, q2⟩ := h3 _ hbox
           have ha := q2 he
           subst ha
           obtain ⟨b', arr, t, r1, r2, r3, r4⟩ := hH.obj _ _ hbox
           have hb : b' = b := by rw [q1] at r1; simpa using r1.symm
           subst hb
           have hcs := pureL_map hxs
           refine .fp _ _ rfl fun j x hj => ?_
           rw [List.getElem?_drop] at hj
           have hj2 : cs[o + j]? = some (.c x) := by rw [hcs, List.getElem?_map, hj]; rfl
           have hlt : o + j < arr.size := by rw [r3]; exact (List.getElem?_eq_some_iff.1 hj2).1
           have hu : arr[o + j]? = some arr[o + j] := Array.getElem?_eq_getElem hlt
           have hv := r4 _ _ _ hj2 hu
           refine ⟨.inr ⟨i, 0, hp, ⟨_, hbox, rfl⟩, q1⟩, arr[o + j], by rw [cell_of_heap r2]; exact hu, ?_⟩
           cases hv with
           | c _ _ hc => exact hc.mono (fun _ _ => rfl) hA
         · exact .junk _
       · exact .junk _
     · exact .junk _
   | false =>
     simp only [Bool.false_eq_true, if_false]
     have at_ : ∀ {z e : Nat} {xs : List (List C)}, (frzH p H)[i]? = some (.mem z e xs) -> H[i]? = some (.mem z e xs) := by
       intro z e xs h
       rw [frzH_at, Option.map_eq_some_iff] at h
       obtain ⟨o, k1, k2⟩ := h
       simp only [hp, Bool.false_eq_true, if_false] at k2
       cases o <;> simp [O.frz] at k2
       rw [k1]; simp [k2]
     refine .ptr _ _ _ _ _ (by rw [frzH_len]; exact h1) (fun z e xs h => h2 _ _ _ (at_ h)) (fun cs h => ?_) (fun z xs h => h4 _ _ (at_ h))
     rw [frzH_at, Option.map_eq_some_iff] at h
     obtain ⟨o', k1, k2⟩ := h
     simp only [hp, Bool.false_eq_true, if_false] at k2
     cases o' <;> simp [O.frz] at k2
     exact h3 _ k1
 | yl i b h1 h2 =>
   simp only [V.frz]
   refine .yl _ _ (by rw [frzH_len]; exact h1) fun r s h => ?_
   rw [frzH_at, Option.map_eq_some_iff] at h
   obtain ⟨o', k1, k2⟩ := h
   split at k2
   · cases k2
   · cases o' <;> simp [O.frz] at k2
     exact h2 _ _ k1
 | fn f caps vs h1 _ ih =>
   refine .fn _ _ _ (by rw [frzL_map]; simpa using h1) fun j x u hj hu => ?_
   obtain ⟨y, k1, rfl⟩ := frzL_get hj
   exact ih j y u k1 hu
 | agg xs vs h1 _ ih =>
   refine .agg _ _ (by rw [frzL_map]; simpa using h1) fun j x u hj hu => ?_
   obtain ⟨y, k1, rfl⟩ := frzL_get hj
   exact ih j y u k1 hu
 | tup xs vs h1 _ ih =>
   refine .tup _ _ (by rw [frzL_map]; simpa using h1) fun j x u hj hu => ?_
   obtain ⟨y, k1, rfl⟩ := frzL_get hj
   exact ih j y u k1 hu
theorem frz_rep (hH : RepH w A bl H) (p : Nat -> Bool) : RepH w (frzA A bl H p) bl (frzH p H) := by
 have halt : ∀ b, frzA A bl H p b -> b < w.heap.size := fun b hb => by
   rcases hb with h | ⟨j, d', hj, haj, hbj⟩
   · exact hH.alt b h
   · exact (hH.lt j b d' haj hbj).1
 have hdis : ∀ b, bl.X b -> ¬ frzA A bl H p b := fun b hX h => by
   rcases h with h | ⟨j, d', hj, haj, hbj⟩
   · exact (hH.xlt b hX).2 h
   · exact hH.xinj j b d' haj hbj hX
 have hlt : ∀ i b d, alive (frzH p H) i -> bl i = some (b, d) -> b < w.heap.size /\ ¬ frzA A bl H p b := fun i b d ha hb => by
   obtain ⟨h1, h2⟩ := frz_alive ha
   refine ⟨(hH.lt i b d h2 hb).1, fun h => ?_⟩
   rcases h with h | ⟨j, d', hj, haj, hbj⟩
   · exact (hH.lt i b d h2 hb).2 h
   · exact hH.inj i j b d d' (fun e => by subst e; rw [h1] at hj; cases hj) h2 haj hb hbj
 refine ⟨fun i o hi => ?_, fun i j b d d' hne ha ha' => hH.inj i j b d d' hne (frz_alive ha).2 (frz_alive ha').2, hlt, halt, fun b hb => ⟨(hH.xlt b hb).1, hdis b hb⟩, fun i b d ha => hH.xinj i b d (frz_alive ha).2, hH.base.mono (fun b hb => .inl hb) (fun _ _ => rfl)⟩
 · have hi0 := hi
   rw [frzH_at, Option.map_eq_some_iff] at hi
   obtain ⟨o', k1, k2⟩ := hi
   split at k2
   · subst k2; trivial
   · subst k2
     have h := hH.obj _ _ k1
     cases o' with
     | gone => trivial
     | yo r s =>
       obtain ⟨b, h1, h2⟩ := h
       refine ⟨b, h1, bl.cx.stable h2 (fun c hc => .inl hc) halt (fun c hc => ?_) (fun _ _ => rfl) (Nat.le_refl _) rfl rfl rfl⟩
       rcases hc with hc | rfl
       · exact hdis c hc
       · exact (hlt i c 0 ⟨_, hi0, rfl⟩ h1).2
     | box cs =>
       obtain ⟨b, arr, t, h1, h2, h3, h4⟩ := h
       refine ⟨b, arr, t, h1, h2, by rw [frzL_map]; simpa using h3, fun j x u hj hu => ?_⟩
       obtain ⟨y, q1, rfl⟩ := frzL_get hj
       exact (h4 j y u q1 hu).frz hH
     | mem z e xs =>
       obtain ⟨h1, h2, h3⟩ := h
       refine ⟨h1, h2, fun b d hb => ?_⟩
       obtain ⟨arr, t, q1, q2, q3⟩ := h3 b d hb
       refine ⟨arr, t, q1, q2, fun k j cs x hk hj => ?_⟩
       obtain ⟨u, u1, u2⟩ := q3 k j cs x hk hj
       exact ⟨u, u1, u2.mono (fun _ _ => rfl) (fun b hb => .inl hb)⟩
theorem frz_liv {p : Nat -> Bool} {b : Nat} (h : Liv bl (frzH p H) b) : Liv bl H b := by
 rcases h with ⟨i, d, ha, hb⟩ | h
 · exact .inl ⟨i, d, (frz_alive ha).2, hb⟩
 · exact .inr h
theorem frz_le {w0 : World} {A0 : Nat -> Prop} {bl0 : Bl} {H0 : Hp} (hl : Le w0 A0 bl0 H0 w A bl H) (p : Nat -> Bool) : Le w0 A0 bl0 H0 w (frzA A bl H p) bl (frzH p H) := by
 have at_ : ∀ {i z e : Nat} {xs : List (List C)}, (frzH p H)[i]? = some (.mem z e xs) -> H[i]? = some (.mem z e xs) := by
   intro i z e xs h
   rw [frzH_at, Option.map_eq_some_iff] at h
   obtain ⟨o, k1, k2⟩ := h
   split at k2
   · cases k2
   · cases o <;> simp [O.frz] at k2
     rw [k1]; simp [k2]
 refine ⟨hl.C, fun b hb => .inl (hl.A b hb), by rw [frzH_len]; exact hl.len, fun i z e xs hi h => hl.mem i z e xs hi (at_ h), fun i cs hi h => ?_, fun i r s hi h => ?_, hl.cx, fun i z e xs xs' b d n h0 h => hl.row i z e xs xs' b d n h0 (at_ h)⟩
 · rw [frzH_at, Option.map_eq_some_iff] at h
   obtain ⟨o, k1, k2⟩ := h
   split at k2
   · cases k2
   · cases o <;> simp [O.frz] at k2
     exact hl.box i _ hi k1
 · rw [frzH_at, Option.map_eq_some_iff] at h
   obtain ⟨o, k1, k2⟩ := h
   split at k2
   · cases k2
   · cases o <;> simp [O.frz] at k2
     exact hl.yo i _ _ hi k1
variable {m : Nat}
theorem youngL_map : ∀ {l : List V}, youngL m H l = l.map (V.young m H)
 | [] => rfl
 | v :: r => by simp [youngL, youngL_map (l := r)]
theorem youngL_get {l : List V} {j : Nat} {x : V} (h : (youngL m H l)[j]? = some x) : ∃ y, l[j]? = some y /\ x = y.young m H := by
 rw [youngL_map, List.getElem?_map, Option.map_eq_some_iff] at h
 obtain ⟨y, h1, h2⟩ := h
 exact ⟨y, h1, h2.symm⟩
theorem youngK_at : ∀ {l : Hp} {k i : Nat}, (youngK m H k l)[i]? = l[i]?.map (O.young m H (k + i))
 | [], k, i => by simp [youngK]
 | o :: r, k, 0 => by simp [youngK]
 | o :: r, k, i + 1 => by
   simp only [youngK, List.getElem?_cons_succ]
   rw [youngK_at, show k + 1 + i = k + (i + 1) by omega]
theorem youngK_len : ∀ {l : Hp} {k : Nat}, (youngK m H k l).length = l.length
 | [], k => rfl
 | o :: r, k => by simp [youngK, youngK_len]
theorem young_at {i : Nat} : (youngK m H 0 H)[i]? = H[i]?.map (O.young m H i) := by
 rw [youngK_at, Nat.zero_add]
theorem young_mem {i z e' : Nat} {xs : List (List C)} (h : (youngK m H 0 H)[i]? = some (.mem z e' xs)) : ∃ e, H[i]? = some (.mem z e xs) /\ e' = if i < m then e else 0 := by
 rw [young_at, Option.map_eq_some_iff] at h
 obtain ⟨o, h1, h2⟩ := h
 cases o <;> simp [O.young] at h2
 obtain ⟨rfl, h3, rfl⟩ := h2
 exact ⟨_, h1, h3.symm⟩
theorem young_box {i : Nat} {cs : List V} (h : (youngK m H 0 H)[i]? = some (.box cs)) : ∃ cs0, H[i]? = some (.box cs0) /\ cs = youngL m H cs0 := by
 rw [young_at, Option.map_eq_some_iff] at h
 obtain ⟨o, h1, h2⟩ := h
 cases o <;> simp [O.young] at h2
 exact ⟨_, h1, h2.symm⟩
theorem young_yo {i : Nat} {r : List (List V)} {t : Bool} (h : (youngK m H 0 H)[i]? = some (.yo r t)) : H[i]? = some (.yo r t) := by
 rw [young_at, Option.map_eq_some_iff] at h
 obtain ⟨o, h1, h2⟩ := h
 cases o <;> simp [O.young] at h2
 rw [h1]; simp [h2]
theorem young_alive {i : Nat} : alive (youngK m H 0 H) i ↔ alive H i := by
 constructor
 · rintro ⟨o, h1, h2⟩
   rw [young_at, Option.map_eq_some_iff] at h1
   obtain ⟨o', h3, rfl⟩ := h1
   exact ⟨o', h3, by cases o' <;> first | rfl | simp [O.young, O.live] at h2⟩
 · rintro ⟨o, h1, h2⟩
   exact ⟨o.young m H i, by rw [young_at, h1]; rfl, by cases o <;> first | rfl | simp [O.live] at h2⟩
theorem young_liv {b : Nat} : Liv bl (youngK m H 0 H) b ↔ Liv bl H b :=
 ⟨fun h => h.elim (fun ⟨i, d, h1, h2⟩ => .inl ⟨i, d, young_alive.1 h1, h2⟩) .inr, fun h => h.elim (fun ⟨i, d, h1, h2⟩ => .inl ⟨i, d, young_alive.2 h1, h2⟩) .inr⟩
theorem ageI_spec {i ep e' : Nat} (h : ageI m H i ep = some e') : (i < m /\ e' = ep) \/ (m <= i /\ ((∃ z xs, H[i]? = some (.mem z ep xs)) /\ e' = 0 \/ (∀ z e xs, H[i]? ≠ some (.mem z e xs)))) := by
 unfold ageI at h
 split at h
 · simp only [Option.some.injEq] at h; exact .inl ⟨‹_›, h.symm⟩
 · refine .inr ⟨by omega, ?_⟩
   split at h
   · split at h <;> simp only [Option.some.injEq, reduceCtorEq] at h
     rename_i z e xs hi he
     subst he
     exact .inl ⟨⟨_, _, hi⟩, h.symm⟩
   · rename_i hne
     exact .inr fun z e xs hi => hne z e xs hi
theorem RepV.young {v : V} {u : Value} (h : RepV w A bl H v u) : RepV w A bl (youngK m H 0 H) (v.young m H) u := by
 induction h with
 | junk => exact .junk _
 | undef => exact .undef
 | c x v h => exact .c _ _ h
 | fp cs a h1 h2 => exact .fp _ _ h1 h2
 | buf i ep off len a l cap h1 h2 h3 =>
   simp only [V.young]
   cases hρ : ageI m H i ep with
   | none => exact .junk _
   | some e' =>
     have hs := ageI_spec hρ
     refine .buf _ _ _ _ _ _ _ (by rw [youngK_len]; exact h1) (fun z e xs hj => ?_) (fun z xs hj => ?_)
     · obtain ⟨e0, k1, rfl⟩ := young_mem hj
       have := h2 _ _ _ k1
       rcases hs with ⟨q1, rfl⟩ | ⟨q1, ⟨_, rfl⟩ | q2⟩
       · rw [if_pos q1]; exact this
       · exact Nat.zero_le _
       · exact absurd k1 (q2 _ _ _)
     · obtain ⟨e0, k1, k2⟩ := young_mem hj
       rcases hs with ⟨q1, rfl⟩ | ⟨q1, ⟨⟨z', xs', q2⟩, rfl⟩ | q2⟩
       · rw [if_pos q1] at k2; subst k2; exact h3 _ _ k1
       · rw [k1] at q2
         simp only [Option.some.injEq, O.mem.injEq] at q2
         obtain ⟨rfl, rfl, rfl⟩ := q2
         exact h3 _ _ k1
       · exact absurd k1 (q2 _ _ _)
 | ptr i ep el o a h1 h2 h3 h4 =>
   simp only [V.young]
   cases hρ : ageI m H i ep with
   | none => exact .junk _
   | some e' =>
     have hs := ageI_spec hρ
     refine .ptr _ _ _ _ _ (by rw [youngK_len]; exact h1) (fun z e xs hj => ?_) (fun cs hj => ?_) (fun z xs hj => ?_)
     · obtain ⟨e0, k1, rfl⟩ := young_mem hj
       have := h2 _ _ _ k1
       rcases hs with ⟨q1, rfl⟩ | ⟨q1, ⟨_, rfl⟩ | q2⟩
       · rw [if_pos q1]; exact this
       · exact Nat.zero_le _
       · exact absurd k1 (q2 _ _ _)
     · obtain ⟨cs0, k1, _⟩ := young_box hj
       exact h3 _ k1
     · obtain ⟨e0, k1, k2⟩ := young_mem hj
       rcases hs with ⟨q1, rfl⟩ | ⟨q1, ⟨⟨z', xs', q2⟩, rfl⟩ | q2⟩
       · rw [if_pos q1] at k2; subst k2; exact h4 _ _ k1
       · rw [k1] at q2
         simp only [Option.some.injEq, O.mem.injEq] at q2
         obtain ⟨rfl, rfl, rfl⟩ := q2
         exact h4 _ _ k1
       · exact absurd k1 (q2 _ _ _)
 | yl i b h1 h2 =>
   simp only [V.young]
   exact .yl _ _ (by rw [youngK_len]; exact h1) fun r s h => h2 _ _ (young_yo h)
 | fn f caps vs h1 _ ih =>
   refine .fn _ _ _ (by rw [youngL_map]; simpa using h1) fun j x u hj hu => ?_
   obtain ⟨y, k1, rfl⟩ := youngL_get hj
   exact ih j y u k1 hu
 | agg xs vs h1 _ ih =>
   refine .agg _ _ (by rw [youngL_map]; simpa using h1) fun j x u hj hu => ?_
   obtain ⟨y, k1, rfl⟩ := youngL_get hj
   exact ih j y u k1 hu
 | tup xs vs h1 _ ih =>
   refine .tup _ _ (by rw [youngL_map]; simpa using h1) fun j x u hj hu => ?_
   obtain ⟨y, k1, rfl⟩ := youngL_get hj
   exact ih j y u k1 hu
theorem young_rep (hH : RepH w A bl H) : RepH w A bl (youngK m H 0 H) := by
 refine ⟨fun i o hi => ?_, fun i j b d d' hij hi hj => hH.inj i j b d d' hij (young_alive.1 hi) (young_alive.1 hj), fun i b d hi => hH.lt i b d (young_alive.1 hi), hH.alt, hH.xlt, fun i b d hi => hH.xinj i b d (young_alive.1 hi), hH.base⟩
 rw [young_at, Option.map_eq_some_iff] at hi
 obtain ⟨o', h1, rfl⟩ := hi
 have := hH.obj i o' h1
 cases o' with
 | gone => trivial
 | yo r s => exact this
 | box cs =>
   obtain ⟨b, arr, t, h1, h2, h3, h4⟩ := this
   refine ⟨b, arr, t, h1, h2, by rw [youngL_map]; simpa using h3, fun j x u hj hu => ?_⟩
   obtain ⟨y, k1, rfl⟩ := youngL_get hj
   exact (h4 j y u k1 hu).young
 | mem z e xs => exact this
theorem youngF_get : ∀ {f : Fr} {t : Nat} {v : V}, get (youngF m H f) t = some v -> ∃ x, get f t = some x /\ v = x.young m H
 | [], t, v, h => by simp [youngF, get] at h
 | (k, x) :: r, t, v, h => by
   simp only [youngF, get] at h ⊢
   split at h
   · simp only [Option.some.injEq] at h
     exact ⟨x, by rw [if_pos ‹_›], h.symm⟩
   · rw [if_neg ‹_›]; exact youngF_get h
theorem young_le {w0 : World} {A0 : Nat -> Prop} {bl0 : Bl} {H0 : Hp} (hl : Le w0 A0 bl0 H0 w A bl H) (hm : H0.length <= m) : Le w0 A0 bl0 H0 w A bl (youngK m H 0 H) := by
 refine ⟨hl.C, hl.A, by rw [youngK_len]; exact hl.len, fun i z e' xs' hi h => ?_, fun i cs' hi h => ?_, fun i r s hi h => hl.yo i r s hi (young_yo h), hl.cx, fun i z e xs xs' b d n h1 h2 hb hr => ?_⟩
 · obtain ⟨e0, k1, k2⟩ := young_mem h
   rw [if_pos (by omega)] at k2
   subst k2
   exact hl.mem i z e' xs' hi k1
 · obtain ⟨cs0, k1, _⟩ := young_box h
   exact hl.box i cs0 hi k1
 · obtain ⟨e0, k1, k2⟩ := young_mem h2
   have hi := (List.getElem?_eq_some_iff.1 h1).1
   rw [if_pos (by omega)] at k2
   subst k2
   exact hl.row i z e xs xs' b d n h1 k1 hb hr
end
end Go.Ev
namespace Go.Ev
def pack (us : List Value) : Value := match us with
 | [u] => u
 | l => .tuple l.toArray
structure YEvo (w : World) (A X : Nat -> Prop) (b : Nat) (w' : World) (A' X' : Nat -> Prop) : Prop where
 os : w'.os = w.os
 tape : w'.tape = w.tape
 output : w'.output = w.output
 size : w.heap.size <= w'.heap.size
 keep : ∀ c, c < w.heap.size -> ¬ X c -> c ≠ b -> w'.heap[c]? = w.heap[c]?
 inc : ∀ c, A c -> A' c
 from_ : ∀ c, A' c -> A c \/ X c \/ w.heap.size <= c
 live : ∀ c, X' c -> X c \/ w.heap.size <= c
 alt : ∀ c, A' c -> c < w'.heap.size
 xlt : ∀ c, X' c -> c < w'.heap.size
 dis : ∀ c, X' c \/ c = b -> ¬ A' c
 xb : ¬ X' b
structure CtxOk (P : Program) (K : World -> Prop) (cx : Ctx) : Prop where
 base : ∀ w, cx.K w -> K w
 yield : ∀ {e : List V} {r : List (List V)} {s : Bool} {b : Nat} {A X : Nat -> Prop} {w : World}, cx.Y (e :: r) s b A X w -> ∀ (bl : Bl) (H : Hp) (us : List Value), RepL w A bl H e us →
   ∃ f tmps asn bd, (Instr.yield b us.toArray).run P w = .ok (.round b f tmps asn bd) w /\ RoundIn Fence.wide 0 P b f tmps asn bd w fun en w' => ∃ A' X', en = .returned (.bool (yoAns (e :: r) s)) /\ cx.Y r s b A' X' w' /\ YEvo w A X b w' A' X'
def Sound (P : Program) (K : World -> Prop) (g : FuncId) (args : List V) (H : Hp) (vals : List V) (H' : Hp) : Prop :=
 ∀ (w : World) (A : Nat -> Prop) (bl : Bl) (us : List Value), CtxOk P K bl.cx -> RepH w A bl H -> RepL w A bl H args us →
   Calls P g us.toArray w fun e w' => ∃ A' bl' rs, e = .returned (pack rs) /\ RepL w' A' bl' H' vals rs /\ RepH w' A' bl' H' /\ Le w A bl H w' A' bl' H' /\ Evo w A (Liv bl H) w' A' (Liv bl' H')
def Enter (P : Program) (g : FuncId) : Prop := ∀ (args : Array Value) (w : World), (callFunc g args).run P w = .ok (.enter g args) w
def CFok (P : Program) (K : World -> Prop) (cf : CF) : Prop := ∀ g args H vals H', cf g args H = some (vals, H') -> Enter P g /\ Sound P K g args H vals H'
section
variable {P : Program} {K : World -> Prop} {w w' : World} {A A' : Nat -> Prop} {bl bl' : Bl} {H H' : Hp} {fr : Fr} {a : Act}
theorem pack_rep {vals : List V} {rs : List Value} (h : RepL w A bl H vals rs) : RepV w A bl H (tupV vals) (pack rs) := by
 obtain ⟨h1, h2⟩ := h
 have tup : RepV w A bl H (.tup vals) (.tuple rs.toArray) := .tup _ _ (by simpa using h1) (fun j x u hj hu => h2 j x u hj (by simpa using hu))
 match vals, rs, h1, h2, tup with
 | [v], [r], _, h2, _ => exact h2 0 v r rfl rfl
 | [], [], _, _, tup => exact tup
 | _ :: _ :: _, _ :: _ :: _, _, _, tup => exact tup
theorem renF_get {ρ : Nat -> Option Nat} : ∀ {fr : Fr} {t : Nat} {v : V}, get (renF ρ fr) t = some v -> ∃ x, get fr t = some x /\ v = x.ren ρ
 | [], t, v, h => by simp [renF, get] at h
 | (k, x) :: r, t, v, h => by
   simp only [renF, get] at h ⊢
   split at h
   · simp only [Option.some.injEq] at h
     exact ⟨x, by simp [*], h.symm⟩
   · obtain ⟨y, h1, h2⟩ := renF_get h
     exact ⟨y, by simp [*], h2⟩
theorem frzF_get {p : Nat -> Bool} : ∀ {fr : Fr} {t : Nat} {v : V}, get (frzF H p fr) t = some v -> ∃ x, get fr t = some x /\ v = x.frz H p
 | [], t, v, h => by simp [frzF, get] at h
 | (k, x) :: r, t, v, h => by
   simp only [frzF, get] at h ⊢
   split at h
   · simp only [Option.some.injEq] at h
     exact ⟨x, by simp [*], h.symm⟩
   · obtain ⟨y, h1, h2⟩ := frzF_get h
     exact ⟨y, by simp [*], h2⟩
theorem RepF.frz (hH : RepH w A bl H) {p : Nat -> Bool} {tmps : Array Value} (h : RepF w A bl H fr tmps) : RepF w (frzA A bl H p) bl (frzH p H) (frzF H p fr) tmps :=
 ⟨fun t v ht => by
   obtain ⟨x, h1, rfl⟩ := frzF_get ht
   obtain ⟨u, h2, h3⟩ := h.at_ t x h1
   exact ⟨u, h2, h3.frz hH⟩⟩
theorem repL_ren {ρ : Nat -> Option Nat} (hr : RenOk ρ bl H bl' H') {l : List V} {us : List Value} (h : RepL w A bl H l us) : RepL w A bl' H' (renL ρ l) us :=
 ⟨by rw [renL_map]; simpa using h.1, fun j x u hj hu => by
   obtain ⟨y, k1, rfl⟩ := renL_get hj
   exact (h.2 j y u k1 hu).ren hr⟩
theorem repL_frz (hH : RepH w A bl H) {p : Nat -> Bool} {l : List V} {us : List Value} (h : RepL w A bl H l us) : RepL w (frzA A bl H p) bl (frzH p H) (frzL H p l) us :=
 ⟨by rw [frzL_map]; simpa using h.1, fun j x u hj hu => by
   obtain ⟨y, k1, rfl⟩ := frzL_get hj
   exact (h.2 j y u k1 hu).frz hH⟩
theorem flat_rep {x : V} {u : Value} (hf : x.flat = true) (h : RepV w A bl H x u) {w2 : World} {A2 : Nat -> Prop} {bl2 : Bl} {H2 : Hp} : RepV w2 A2 bl2 H2 x u := by
 unfold V.flat at hf
 split at hf
 · rw [h.int_inv]; exact .int _ _
 · rw [h.bool_inv]; exact .bool _
 · rw [h.str_inv]; exact .str _
 · simp at hf
theorem flatL_at : ∀ {l : List V}, flatL l = true -> ∀ (j : Nat) (x : V), l[j]? = some x -> x.flat = true
 | [], _, j, x, hj => by simp at hj
 | v :: r, h, j, x, hj => by
   simp only [flatL, Bool.and_eq_true] at h
   cases j with
   | zero => simp at hj; subst hj; exact h.1
   | succ j => simp at hj; exact flatL_at h.2 j x hj
theorem setAll_len : ∀ {ids : List Nat} {l H : Hp}, (setAll H ids l).length = H.length
 | [], l, H => by cases l <;> rfl
 | i :: r, [], H => rfl
 | i :: r, o :: l, H => by simp [setAll, setAll_len (ids := r)]
theorem setAll_at : ∀ {ids : List Nat} {l H : Hp}, distinct ids = true -> ids.length = l.length -> (∀ (k i : Nat), ids[k]? = some i -> i < H.length) -> (∀ (k i : Nat), ids[k]? = some i -> (setAll H ids l)[i]? = l[k]?) /\ (∀ i, i ∉ ids -> (setAll H ids l)[i]? = H[i]?)
 | [], l, H, _, hl, _ => ⟨fun k i hk => by simp at hk, fun i _ => by cases l <;> rfl⟩
 | j :: r, [], H, _, hl, _ => by simp at hl
 | j :: r, o :: l, H, hd, hl, hb => by
   simp only [distinct, Bool.and_eq_true, Bool.not_eq_true'] at hd
   have hn : j ∉ r := by simpa using hd.1
   obtain ⟨g1, g2⟩ := setAll_at (ids := r) (l := l) (H := H.set j o) hd.2 (by simpa using hl) (fun k i hk => by simpa using hb (k + 1) i (by simpa using hk))
   have hj : j < H.length := hb 0 j rfl
   refine ⟨fun k i hk => ?_, fun i hi => ?_⟩
   · cases k with
     | zero =>
       simp at hk; subst hk
       simp only [setAll]
       rw [g2 j hn, List.getElem?_set_self hj]; rfl
     | succ k => simp at hk; simp only [setAll]; rw [g1 k i hk]; rfl
   · simp only [List.mem_cons, not_or] at hi
     simp only [setAll]
     rw [g2 i hi.2, List.getElem?_set_ne (Ne.symm hi.1)]
def backBl (bl : Bl) (ids : List Nat) (n : Nat) (bs : Bl) : Bl :=
 { bl with loc := fun i => match idx ids i with
   | some k => bs k
   | none => if n <= i then bs (ids.length + (i - n)) else bl i }
theorem idx_mem : ∀ {l : List Nat} {i : Nat}, i ∈ l -> ∃ k, idx l i = some k
 | j :: r, i, h => by
   unfold idx
   split
   · exact ⟨0, rfl⟩
   · rcases List.mem_cons.1 h with h | h
     · exact absurd h ‹_›
     · obtain ⟨k, hk⟩ := idx_mem h
       simp [hk]
theorem idx_of {l : List Nat} (hd : distinct l = true) {i k : Nat} (h : l[k]? = some i) : idx l i = some k := by
 obtain ⟨k', hk'⟩ := idx_mem (List.mem_of_getElem? h)
 rw [hk', distinct_inj hd (idx_some hk') h]
theorem idx_none {l : List Nat} {i : Nat} (h : i ∉ l) : idx l i = none := by
 cases hi : idx l i with
 | none => rfl
 | some k => exact absurd (List.mem_of_getElem? (idx_some hi)) h
theorem put_back (hH : RepH w A bl H) {ids : List Nat} {h0 h1 : Hp} (ht : take ids H ids = some h0) (hd : distinct ids = true) (hm : ids.length <= h1.length) (hn1 : noYo h1 = true) {bs : Bl}
   (hA : ∀ b, A b -> A' b) (h1rep : RepH w' A' bs h1) (hle : Le w A (subBl bl ids).noX h0 w' A' bs h1) (hev : Evo w A (Liv (subBl bl ids).noX h0) w' A' (Liv bs h1)) :
   let ρ := back ids H.length
   let H2 := setAll H ids (renH ρ (h1.take ids.length)) ++ renH ρ (h1.drop ids.length)
   let bl2 := backBl bl ids H.length bs
   RenOk ρ bs h1 bl2 H2 /\ RepH w' A' bl2 H2 /\ Le w A bl H w' A' bl2 H2 /\ Evo w A (Liv bl H) w' A' (Liv bl2 H2) := by
 intro ρ H2 bl2
 obtain ⟨t1, t2⟩ := take_at ht
 have hids : ∀ (k i : Nat), ids[k]? = some i -> i < H.length := fun k i hk => by
   obtain ⟨o, k1, _⟩ := t2 k i hk
   exact (List.getElem?_eq_some_iff.1 k1).1
 have hlen : (setAll H ids (renH ρ (h1.take ids.length))).length = H.length := setAll_len
 obtain ⟨s1, s2⟩ := setAll_at (H := H) (l := renH ρ (h1.take ids.length)) hd (by rw [renH_map]; simp; omega) hids
 have at1 : ∀ (k i : Nat), ids[k]? = some i -> H2[i]? = (h1[k]?).map (O.ren ρ) := by
   intro k i hk
   have hk' := (List.getElem?_eq_some_iff.1 hk).1
   show (setAll H ids (renH ρ (h1.take ids.length)) ++ renH ρ (h1.drop ids.length))[i]? = _
   rw [List.getElem?_append_left (by rw [hlen]; exact hids k i hk), s1 k i hk, renH_map, List.getElem?_map, List.getElem?_take, if_pos hk']
 have at2 : ∀ (i : Nat), i ∉ ids -> i < H.length -> H2[i]? = H[i]? := by
   intro i hi hlt
   show (setAll H ids (renH ρ (h1.take ids.length)) ++ renH ρ (h1.drop ids.length))[i]? = _
   rw [List.getElem?_append_left (by rw [hlen]; exact hlt), s2 i hi]
 have at3 : ∀ (j : Nat), H2[H.length + j]? = (h1[ids.length + j]?).map (O.ren ρ) := by
   intro j
   show (setAll H ids (renH ρ (h1.take ids.length)) ++ renH ρ (h1.drop ids.length))[_]? = _
   rw [List.getElem?_append_right (by rw [hlen]; omega), renH_map, List.getElem?_map, List.getElem?_drop, hlen]
   congr 3; omega
 have hlen2 : H2.length = H.length + (h1.length - ids.length) := by
   show (setAll H ids (renH ρ (h1.take ids.length)) ++ renH ρ (h1.drop ids.length)).length = _
   rw [List.length_append, hlen, renH_map]; simp
 have b1 : ∀ (k i : Nat), ids[k]? = some i -> bl2 i = bs k := fun k i hk => by
   show backBl bl ids H.length bs i = _
   simp [backBl, idx_of hd hk]
 have b2 : ∀ i, i ∉ ids -> i < H.length -> bl2 i = bl i := fun i hi hlt => by
   show backBl bl ids H.length bs i = _
   simp [backBl, idx_none hi, Nat.not_le.2 hlt]
 have b3 : ∀ j, bl2 (H.length + j) = bs (ids.length + j) := fun j => by
   have hn : H.length + j ∉ ids := fun h => by
     obtain ⟨k, hk, he⟩ := List.mem_iff_getElem.1 h
     have := hids k _ (by rw [List.getElem?_eq_getElem hk, he]); omega
   show backBl bl ids H.length bs (H.length + j) = _
   simp [backBl, idx_none hn]
 -- three kinds of places
 have kinds : ∀ (i : Nat) (o : O), H2[i]? = some o -> (∃ k : Nat, ids[k]? = some i) \/ (i ∉ ids /\ i < H.length) \/ ∃ j, i = H.length + j /\ ids.length + j < h1.length := by
   intro i o hi
   have := (List.getElem?_eq_some_iff.1 hi).1
   by_cases hm' : i ∈ ids
   · obtain ⟨k, hk⟩ := idx_mem hm'; exact .inl ⟨k, idx_some hk⟩
   · rcases Nat.lt_or_ge i H.length with h | h
     · exact .inr (.inl ⟨hm', h⟩)
     · exact .inr (.inr ⟨i - H.length, by omega, by omega⟩)
 have hren : RenOk ρ bs h1 bl2 H2 := by
   refine ⟨fun k i hk hlt => ?_⟩
   have hk' : back ids H.length k = some i := hk
   unfold back at hk'
   split at hk'
   · rename_i i' hi'
     simp only [Option.some.injEq] at hk'
     subst hk'
     refine ⟨by rw [hlen2]; have := hids k _ hi'; omega, b1 k _ hi', fun o' ho' => ?_⟩
     rw [at1 k _ hi', Option.map_eq_some_iff] at ho'
     obtain ⟨o, q1, q2⟩ := ho'
     exact ⟨o, q1, q2.symm⟩
   · rename_i hnone
     simp only [Option.some.injEq] at hk'
     subst hk'
     have hge : ids.length <= k := by simpa using hnone
     refine ⟨by rw [hlen2]; omega, by rw [b3]; congr 1; omega, fun o' ho' => ?_⟩
     rw [at3, Option.map_eq_some_iff] at ho'
     obtain ⟨o, q1, q2⟩ := ho'
     exact ⟨o, by rw [<- q1]; congr 1; omega, q2.symm⟩
 -- old objects that weren't handed over
 have far : ∀ {i b d}, i ∉ ids -> alive H i -> bl i = some (b, d) -> w'.heap[b]? = w.heap[b]? := fun {i b d} hi ha hb =>
   hev.keep b (hH.lt i b d ha hb).1 fun hL => by
     obtain ⟨k, d', hak, hbk⟩ := hL.resolve_right (fun h => h)
     simp only [Bl.noX] at hbk
     obtain ⟨i', q1, q2⟩ := sub_alive ht hak
     simp only [subBl, q1] at hbk
     exact hH.inj i i' b d d' (fun e => hi (e ▸ List.mem_of_getElem? q1)) ha q2 hb hbk
 have farA : ∀ {i b d}, i ∉ ids -> alive H i -> bl i = some (b, d) -> ¬ A' b := fun {i b d} hi ha hb hb' => by
   have := hH.lt i b d ha hb
   rcases hev.from_ b hb' with h | h | h
   · exact this.2 h
   · obtain ⟨k0, d0, ha0, hb0⟩ := h.resolve_right (fun h => h)
     simp only [Bl.noX] at hb0
     obtain ⟨i', p1, p2⟩ := sub_alive ht ha0
     simp only [subBl, p1] at hb0
     exact hH.inj i i' b d d0 (fun e => hi (e ▸ List.mem_of_getElem? p1)) ha p2 hb hb0
   · omega
 have xL : ∀ {b}, bl.X b -> ¬ Liv (subBl bl ids).noX h0 b := fun {b} hX hL => by
   obtain ⟨k, d', hak, hbk⟩ := hL.resolve_right (fun h => h)
   simp only [Bl.noX] at hbk
   obtain ⟨i', q1, q2⟩ := sub_alive ht hak
   simp only [subBl, q1] at hbk
   exact hH.xinj i' b d' q2 hbk hX
 have hard : Ard w w' A' bl bl2 := ⟨rfl, h1rep.alt, fun c hc h => by
     rcases hev.from_ c h with h | h | h
     · exact (hH.xlt c hc).2 h
     · exact xL hc h
     · have := (hH.xlt c hc).1; omega, fun c hc => hev.keep c (hH.xlt c hc).1 (xL hc), hev.size, hev.os, hev.tape, hev.output⟩
 have hle2 : Le w A bl H w' A' bl2 H2 := by
   refine ⟨hle.C, hA, by rw [hlen2]; omega, fun i z e xs hi h => ?_, fun i cs hi h => ?_, fun i r s hi h => ?_, rfl, fun i z e xs xs' b d n h0' h hb hr => ?_⟩
   · rcases kinds i _ h with ⟨k, hk⟩ | ⟨hn, hlt⟩ | ⟨j, rfl, _⟩
     · rw [at1 k i hk, Option.map_eq_some_iff] at h
       obtain ⟨o, q1, q2⟩ := h
       have q2 := O.ren_mem q2.symm
       subst q2
       obtain ⟨o0, r1, r2⟩ := t2 k i hk
       have hk' := (List.getElem?_eq_some_iff.1 hk).1
       obtain ⟨e0, xs0, p1, p2, p3⟩ := hle.mem k z e xs (by omega) q1
       rw [r2] at p1
       simp only [Option.some.injEq] at p1
       have := O.ren_mem p1.symm
       subst this
       refine ⟨e0, xs0, r1, p2, fun he => ?_⟩
       obtain ⟨u1, u2⟩ := p3 he
       refine ⟨u1, ?_⟩
       rw [b1 k i hk, u2]; simp [subBl, Bl.noX, hk]
     · rw [at2 i hn hlt] at h
       exact ⟨e, xs, h, Nat.le_refl _, fun _ => ⟨rfl, b2 i hn hlt⟩⟩
     · omega
   · rcases kinds i _ h with ⟨k, hk⟩ | ⟨hn, hlt⟩ | ⟨j, rfl, _⟩
     · rw [at1 k i hk, Option.map_eq_some_iff] at h
       obtain ⟨o, q1, q2⟩ := h
       obtain ⟨cs1, rfl, _⟩ := O.ren_box q2.symm
       obtain ⟨o0, r1, r2⟩ := t2 k i hk
       have hk' := (List.getElem?_eq_some_iff.1 hk).1
       obtain ⟨cs0, p1, p2⟩ := hle.box k cs1 (by omega) q1
       rw [r2] at p1
       simp only [Option.some.injEq] at p1
       obtain ⟨cs2, rfl, _⟩ := O.ren_box p1.symm
       refine ⟨cs2, r1, ?_⟩
       rw [b1 k i hk, p2]; simp [subBl, Bl.noX, hk]
     · rw [at2 i hn hlt] at h
       exact ⟨cs, h, b2 i hn hlt⟩
     · omega
   · rcases kinds i _ h with ⟨k, hk⟩ | ⟨hn, hlt⟩ | ⟨j, rfl, _⟩
     · rw [at1 k i hk, Option.map_eq_some_iff] at h
       obtain ⟨o, q1, q2⟩ := h
       exact absurd (O.ren_yo q2.symm ▸ q1) (noYo_at hn1 _ _ _)
     · rw [at2 i hn hlt] at h
       exact ⟨r, s, h, b2 i hn hlt⟩
     · omega
   · rcases kinds i _ h with ⟨k, hk⟩ | ⟨hn, hlt⟩ | ⟨j, rfl, _⟩
     · rw [at1 k i hk, Option.map_eq_some_iff] at h
       obtain ⟨o, q1, q2⟩ := h
       have q2 := O.ren_mem q2.symm
       subst q2
       obtain ⟨o0, r1, r2⟩ := t2 k i hk
       rw [h0'] at r1
       simp only [Option.some.injEq] at r1
       subst r1
       exact hle.row k z e xs xs' b d n r2 q1 (by simp [subBl, Bl.noX, hk, hb]) hr
     · rw [at2 i hn hlt] at h
       rw [rowOf_keep (far hn ⟨_, h0', rfl⟩ hb)]; exact hr
     · have := (List.getElem?_eq_some_iff.1 h0').1; omega
 have al : ∀ {i}, alive H2 i -> (∃ k : Nat, ids[k]? = some i /\ alive h1 k) \/ (i ∉ ids /\ i < H.length /\ alive H i) \/ ∃ j, i = H.length + j /\ alive h1 (ids.length + j) := by
   intro i ⟨o, h, hlv⟩
   rcases kinds i _ h with ⟨k, hk⟩ | ⟨hn, hlt⟩ | ⟨j, rfl, _⟩
   · rw [at1 k i hk, Option.map_eq_some_iff] at h
     obtain ⟨o1, q1, q2⟩ := h
     exact .inl ⟨k, hk, o1, q1, by rw [<- q2, O.ren_live] at hlv; exact hlv⟩
   · rw [at2 i hn hlt] at h
     exact .inr (.inl ⟨hn, hlt, o, h, hlv⟩)
   · rw [at3, Option.map_eq_some_iff] at h
     obtain ⟨o1, q1, q2⟩ := h
     exact .inr (.inr ⟨j, rfl, o1, q1, by rw [<- q2, O.ren_live] at hlv; exact hlv⟩)
 -- each object is one of the part's (by its number there) or an old one
 have src : ∀ {i b d}, alive H2 i -> bl2 i = some (b, d) -> (∃ k : Nat, alive h1 k /\ bs k = some (b, d) /\ (ids[k]? = some i \/ (ids[k]? = none /\ i = H.length + (k - ids.length)))) \/ (i ∉ ids /\ alive H i /\ bl i = some (b, d)) := by
   intro i b d ha hb
   rcases al ha with ⟨k, hk, hak⟩ | ⟨hn, hlt, hai⟩ | ⟨j, rfl, haj⟩
   · rw [b1 k i hk] at hb; exact .inl ⟨k, hak, hb, .inl hk⟩
   · rw [b2 i hn hlt] at hb; exact .inr ⟨hn, hai, hb⟩
   · rw [b3] at hb
     exact .inl ⟨ids.length + j, haj, hb, .inr ⟨by simp, by omega⟩⟩
 have oldnew : ∀ {i b d k d'}, i ∉ ids -> alive H i -> bl i = some (b, d) -> alive h1 k -> bs k = some (b, d') -> False := by
   intro i b d k d' hn ha hb hak hbk
   rcases hev.live b (.inl ⟨k, d', hak, hbk⟩) with h | h
   · obtain ⟨k0, d0, ha0, hb0⟩ := h.resolve_right (fun h => h)
     simp only [Bl.noX] at hb0
     obtain ⟨i', q1, q2⟩ := sub_alive ht ha0
     simp only [subBl, q1] at hb0
     exact hH.inj i i' b d d0 (fun e => hn (e ▸ List.mem_of_getElem? q1)) ha q2 hb hb0
   · have := (hH.lt i b d ha hb).1; omega
 have hobj : ∀ {k i : Nat} {o1 : O}, h1[k]? = some o1 -> bl2 i = bs k -> RepO w' A' bl2 H2 i (o1.ren ρ) := fun {k i o1} q1 hb => by
   have hc : bs.cx = bl.cx := hle.cx
   exact ((h1rep.obj _ _ q1).setX (X := bl.X) fun r s e => noYo_at hn1 k r s (e ▸ q1)).ren (bl := { bs with X := bl.X }) ⟨hren.at_⟩ rfl hc.symm hb
 have hrep : RepH w' A' bl2 H2 := by
   refine ⟨fun i o hi => ?_, fun i j b d d' hne ha ha' hb hb' => ?_, fun i b d ha hb => ?_, h1rep.alt, fun b hb => ⟨Nat.lt_of_lt_of_le (hH.xlt b hb).1 hev.size, hard.dis b hb⟩, fun i b d ha hb hX => ?_, hH.base.mono hA hle.C⟩
   · rcases kinds i _ hi with ⟨k, hk⟩ | ⟨hn, hlt⟩ | ⟨j, rfl, _⟩
     · rw [at1 k i hk, Option.map_eq_some_iff] at hi
       obtain ⟨o1, q1, q2⟩ := hi
       subst q2
       exact hobj q1 (b1 k i hk)
     · rw [at2 i hn hlt] at hi
       cases hlv : o.live with
       | false => cases o <;> simp [O.live] at hlv; trivial
       | true => exact (hH.obj i o hi).mono hle2 hard (b2 i hn hlt) (fun b d hb => far hn ⟨o, hi, hlv⟩ hb) (fun b d hb => farA hn ⟨o, hi, hlv⟩ hb)
     · rw [at3, Option.map_eq_some_iff] at hi
       obtain ⟨o1, q1, q2⟩ := hi
       subst q2
       exact hobj q1 (b3 j)
   · rcases src ha hb with ⟨k, q1, q2, q3⟩ | ⟨n1, q1, q2⟩ <;> rcases src ha' hb' with ⟨k', r1, r2, r3⟩ | ⟨n2, r1, r2⟩
     · refine h1rep.inj k k' b d d' (fun e => hne ?_) q1 r1 q2 r2
       subst e
       rcases q3 with q3 | ⟨q3, q4⟩ <;> rcases r3 with r3 | ⟨r3, r4⟩
       · rw [q3] at r3; simpa using r3
       · rw [q3] at r3; cases r3
       · rw [q3] at r3; cases r3
       · rw [q4, r4]
     · exact oldnew n2 r1 r2 q1 q2
     · exact oldnew n1 q1 q2 r1 r2
     · exact hH.inj i j b d d' hne q1 r1 q2 r2
   · rcases src ha hb with ⟨k, q1, q2, _⟩ | ⟨n1, q1, q2⟩
     · exact h1rep.lt k b d q1 q2
     · exact ⟨Nat.lt_of_lt_of_le (hH.lt i b d q1 q2).1 hev.size, farA n1 q1 q2⟩
   · rcases src ha hb with ⟨k, q1, q2, _⟩ | ⟨n1, q1, q2⟩
     · rcases hev.live b (.inl ⟨k, d, q1, q2⟩) with h | h
       · exact xL hX h
       · have := (hH.xlt b hX).1; omega
     · exact hH.xinj i b d q1 q2 hX
 refine ⟨hren, hrep, hle2, ⟨hev.os, hev.tape, hev.output, hev.size, fun b hb hn => hev.keep b hb fun hL => hn (sub_liv ht (noX_liv hL)), fun b hb => ?_, fun b hb => ?_⟩⟩
 · rcases hb with ⟨i, d, ha, hb⟩ | hb
   · rcases src ha hb with ⟨k, q1, q2, _⟩ | ⟨n1, q1, q2⟩
     · rcases hev.live b (.inl ⟨k, d, q1, q2⟩) with h | h
       · exact .inl (sub_liv ht (noX_liv h))
       · exact .inr h
     · exact .inl (.inl ⟨i, d, q1, q2⟩)
   · exact .inl (.inr hb)
 · rcases hev.from_ b hb with h | h | h
   · exact .inl h
   · exact .inr (.inl (sub_liv ht (noX_liv h)))
   · exact .inr (.inr h)
theorem frz_evo (hH : RepH w A bl H) (p : Nat -> Bool) : Evo w A (Liv bl H) w (frzA A bl H p) (Liv bl (frzH p H)) :=
 ⟨rfl, rfl, rfl, Nat.le_refl _, fun _ _ _ => rfl, fun b hb => .inl (frz_liv hb), fun b hb => hb.elim .inl fun ⟨i, d, _, h1, h2⟩ => .inr (.inl (.inl ⟨i, d, h1, h2⟩))⟩
theorem xcall_sound {cf : CF} (hcf : CFok P K cf) (hcx : CtxOk P K bl.cx) (hH : RepH w A bl H) {tmps : Array Value} (hF : RepF w A bl H fr tmps) {byref : Nat -> Bool} {g : FuncId} {args vals : List V} {fr' : Fr} {k : Nat} {us : List Value} (hargs : RepL w A bl H args us)
   (h : xcall byref cf g args fr H = some (vals, fr', H', k)) :
   Enter P g /\ Calls P g us.toArray w fun e w' => ∃ A' bl' rs, e = .returned (pack rs) /\ RepL w' A' bl' H' vals rs /\ RepH w' A' bl' H' /\ RepF w' A' bl' H' fr' tmps /\ Evo w A (Liv bl H) w' A' (Liv bl' H') ∧
     ∀ w0 A0 bl0 H0, Le w0 A0 bl0 H0 w A bl H -> Le w0 A0 bl0 H0 w' A' bl' H' := by
 unfold xcall at h
 dsimp only at h
 generalize hS : snapIds byref 0 args = S at h
 generalize hp : (fun i => S.contains i : Nat -> Bool) = p at h
 -- the rows that are only read from now on
 obtain ⟨A1, hH1, hF1, hargs1, hle1, hev1, hsub⟩ : ∃ A1, RepH w A1 bl (if S.isEmpty = true then H else frzH p H) /\ RepF w A1 bl (if S.isEmpty = true then H else frzH p H) (if S.isEmpty = true then fr else frzF H p fr) tmps ∧
     RepL w A1 bl (if S.isEmpty = true then H else frzH p H) (if S.isEmpty = true then args else frzL H p args) us /\ (∀ w0 A0 bl0 H0, Le w0 A0 bl0 H0 w A bl H -> Le w0 A0 bl0 H0 w A1 bl (if S.isEmpty = true then H else frzH p H)) ∧
     Evo w A (Liv bl H) w A1 (Liv bl (if S.isEmpty = true then H else frzH p H)) /\ ∀ b, A b -> A1 b := by
   cases hSe : S.isEmpty with
   | true => exact ⟨A, by simpa using hH, by simpa using hF, by simpa using hargs, fun _ _ _ _ hl => by simpa using hl, by simpa using Evo.refl w A (Liv bl H), fun _ h => h⟩
   | false =>
     simp only [Bool.false_eq_true, if_false]
     exact ⟨frzA A bl H p, frz_rep hH p, hF.frz hH, repL_frz hH hargs, fun _ _ _ _ hl => frz_le hl p, frz_evo hH p, fun b hb => .inl hb⟩
 generalize hH1e : (if S.isEmpty = true then H else frzH p H) = H1 at h hH1 hF1 hargs1 hle1 hev1
 generalize hF1e : (if S.isEmpty = true then fr else frzF H p fr) = fr1 at h hF1
 generalize hA1e : (if S.isEmpty = true then args else frzL H p args) = args1 at h hargs1
 generalize reach H1 (2 * H.length + 40) (idsL args1) [] = ids at h
 split at h
 case h_1 => simp at h
 rename_i h0 ht
 split at h
 case isFalse => simp at h
 rename_i hd
 split at h
 case h_1 => simp at h
 rename_i vals0 h1 hcall
 obtain ⟨ht, hn0⟩ := takeC_some ht
 have hsr := noX_rep (sub_rep hH1 ht hd) hn0
 have hsa0 := repL_ren (sub_ren (bl := bl) ht) hargs1
 have hsa : RepL w A1 (subBl bl ids).noX h0 _ us := ⟨hsa0.1, fun j x u hj hu => (hsa0.2 j x u hj hu).mono noX_le⟩
 refine ⟨(hcf _ _ _ _ _ hcall).1, ((hcf _ _ _ _ _ hcall).2 w A1 (subBl bl ids).noX us hcx hsr hsa).mono ?_⟩
 rintro e w' ⟨A', bs, rs, rfl, hv, hr1, hle, hev⟩
 split at h
 · rename_i hflat
   simp only [Option.some.injEq, Prod.mk.injEq] at h
   obtain ⟨rfl, rfl, rfl, _⟩ := h
   simp only [Bool.and_eq_true, List.isEmpty_iff] at hflat
   obtain ⟨⟨rfl, hfl⟩, rfl⟩ := hflat
   simp only [take, Option.some.injEq] at ht
   subst ht
   have noL : ∀ b, ¬ Liv (subBl bl []).noX ([] : Hp) b := fun b h => by
     obtain ⟨i, d, ⟨o, ho, _⟩, _⟩ := h.resolve_right (fun h => h)
     simp at ho
   have g : Grow w w' := ⟨hev.os, hev.tape, hev.output, hev.size, fun b hb => hev.keep b hb (noL b)⟩
   obtain ⟨q1, q2⟩ := grow hH g (N := fun _ => False) (fun b hb => hb.elim)
   exact ⟨_, bl, rs, rfl, ⟨hv.1, fun j x u hj hu => flat_rep (flatL_at hfl j x hj) (hv.2 j x u hj hu)⟩, q1, hF.mono q2, g.evo (fun b hb => .inl hb) (fun b hb => hb.elim .inl False.elim), fun _ _ _ _ hl => hl.trans q2⟩
 · split at h <;> simp only [Option.some.injEq, Prod.mk.injEq, reduceCtorEq] at h
   rename_i hm
   obtain ⟨rfl, rfl, rfl, _⟩ := h
   obtain ⟨q1, q2, q3, q4⟩ := put_back hH1 ht hd hm.1 hm.2 hle.A hr1 hle hev
   exact ⟨A', _, rs, rfl, repL_ren q1 hv, q2, hF1.mono q3, hev1.trans q4, fun _ _ _ _ hl => (hle1 _ _ _ _ hl).trans q3⟩
end
end Go.Ev
namespace Go.Ev
structure Rnd where
 L : Nat -> Prop
 ro : Option (Nat × Loop)
 far : List (Nat × Obj)
def Rnd.F (z : Rnd) : Fence := { Fence.wide with round := z.ro.map (·.1) }
def MarkOk (w0 w : World) (A L : Nat -> Prop) (d : Deferred) : Prop := ∃ D, d.target = .collected D /\ w0.heap.size <= D /\ D < w.heap.size /\ w.heap[D]? = some (.deferred (some [])) /\ ¬ A D /\ ¬ L D
structure Inv (w0 : World) (A0 : Nat -> Prop) (bl0 : Bl) (H0 : Hp) (z : Rnd) (n : Nat) (w : World) (A : Nat -> Prop) (bl : Bl) (fr : Fr) (H : Hp) (a : Act) : Prop where
 rep : RepH w A bl H
 frm : RepF w A bl H fr a.tmps
 size : a.tmps.size = n
 marks : (∀ d ∈ a.defers, MarkOk w0 w A (Liv bl H) d) /\ a.defers.Pairwise (fun d d' => d.target ≠ d'.target)
 rnd : ∀ x, z.ro = some x -> a.defers = [] /\ w.heap[x.1]? = some (.loop x.2) /\ ¬ A x.1 /\ ¬ Liv bl H x.1
 le : Le w0 A0 bl0 H0 w A bl H
 evo : Evo w0 A0 z.L w A (Liv bl H)
 far : ∀ x ∈ z.far, w0.heap.size <= x.1 /\ w.heap[x.1]? = some x.2 /\ ¬ A x.1 /\ ¬ Liv bl H x.1
theorem Evo.far {w w' : World} {A L A' L' : Nat -> Prop} (h : Evo w A L w' A' L') {c : Nat} (hc : c < w.heap.size) (hA : ¬ A c) (hL : ¬ L c) : w'.heap[c]? = w.heap[c]? /\ ¬ A' c /\ ¬ L' c /\ c < w'.heap.size :=
 ⟨h.keep c hc hL, fun h1 => (h.from_ c h1).elim hA fun h2 => h2.elim hL fun h3 => by omega, fun h1 => (h.live c h1).elim hL fun h2 => by omega, Nat.lt_of_lt_of_le hc h.size⟩
section
variable {P : Program} {w0 : World} {A0 : Nat -> Prop} {bl0 : Bl} {H0 : Hp} {z : Rnd} {K : World -> Prop} {n : Nat} {w w' : World} {A A' : Nat -> Prop} {bl bl' : Bl} {H H' : Hp} {fr fr' : Fr} {a : Act}
theorem Inv.step (h : Inv w0 A0 bl0 H0 z n w A bl fr H a) (hr : RepH w' A' bl' H') (hf : RepF w' A' bl' H' fr' a.tmps) (hl : Le w0 A0 bl0 H0 w' A' bl' H') (he : Evo w A (Liv bl H) w' A' (Liv bl' H')) : Inv w0 A0 bl0 H0 z n w' A' bl' fr' H' a := by
 refine ⟨hr, hf, h.size, ⟨fun d hd => ?_, h.marks.2⟩, fun x hx => ?_, hl, h.evo.trans he, fun x hx => ?_⟩
 · obtain ⟨D, h1, h2, h3, h4, h5, h6⟩ := h.marks.1 d hd
   obtain ⟨g1, g2, g3, g4⟩ := he.far h3 h5 h6
   exact ⟨D, h1, h2, g4, g1.trans h4, g2, g3⟩
 · obtain ⟨h0, h1, h2, h3⟩ := h.rnd x hx
   obtain ⟨g1, g2, g3, _⟩ := he.far (Array.getElem?_eq_some_iff.1 h1).1 h2 h3
   exact ⟨h0, g1.trans h1, g2, g3⟩
 · obtain ⟨h0, h1, h2, h3⟩ := h.far x hx
   obtain ⟨g1, g2, g3, _⟩ := he.far (Array.getElem?_eq_some_iff.1 h1).1 h2 h3
   exact ⟨h0, g1.trans h1, g2, g3⟩
theorem Inv.put (h : Inv w0 A0 bl0 H0 z n w A bl fr H a) {d : Option Nat} {v : V} {r : Value} (hv : RepV w A bl H v r) (hp : put n d v fr = some fr') : Inv w0 A0 bl0 H0 z n w A bl fr' H (a.put d r) := by
 unfold Ev.put at hp
 split at hp
 · rename_i t
   split at hp <;> simp only [Option.some.injEq, reduceCtorEq] at hp
   rename_i ht
   subst hp
   refine ⟨h.rep, ⟨fun t' v' hg => ?_⟩, by simp [Act.put, h.size], h.marks, h.rnd, h.le, h.evo, h.far⟩
   simp only [get] at hg
   have hs := h.size
   split at hg
   · rename_i he
     subst he
     simp only [Option.some.injEq] at hg
     subst hg
     exact ⟨r, by simp [Act.put, hs, ht], hv⟩
   · rename_i hne
     obtain ⟨u, h1, h2⟩ := h.frm.at_ t' v' hg
     refine ⟨u, ?_, h2⟩
     simp only [Act.put]
     rw [Array.getElem?_setIfInBounds_ne (Ne.symm hne)]
     exact h1
 · simp only [Option.some.injEq] at hp
   subst hp
   exact ⟨h.rep, h.frm, h.size, h.marks, h.rnd, h.le, h.evo, h.far⟩
theorem Inv.frame (h : Inv w0 A0 bl0 H0 z n w A bl fr H a) (hs : ∀ t v, get fr' t = some v -> get fr t = some v) : Inv w0 A0 bl0 H0 z n w A bl fr' H a :=
 ⟨h.rep, ⟨fun t v ht => h.frm.at_ t v (hs t v ht)⟩, h.size, h.marks, h.rnd, h.le, h.evo, h.far⟩
theorem wanted_of (hF : RepF w A bl H fr a.tmps) {ops : Array Oper} {o : Oper} {b : Bool} (h : wantedV ops.toList fr o = some b) : Region.wanted o (yielded ops a.tmps) = b := by
 unfold wantedV at h
 unfold Region.wanted
 split at h
 · rename_i hg; rw [hg]; simpa using h
 · rename_i j want hg
   rw [hg]
   simp only
   split at h
   case h_2 => simp at h
   rename_i q hq
   split at h
   case h_2 => simp at h
   rename_i d hd
   have hq' : ops[j]? = some q := by simpa using hq
   split at h <;> simp only [Option.some.injEq, reduceCtorEq] at h
   · rename_i hu
     obtain ⟨u, h1, h2⟩ := hF.at_ d _ hu
     cases h2
     subst h
     have : yielded ops a.tmps j = none := by simp [yielded, hq', hd, h1, undef]
     rw [this]; rfl
   · rename_i b0 hb
     obtain ⟨u, h1, h2⟩ := hF.at_ d _ hb
     have := h2.bool_inv
     subst this
     have : yielded ops a.tmps j = some b0 := by simp [yielded, hq', hd, h1]
     rw [this, <- h]
     cases b0 <;> cases want <;> rfl
theorem RepV.fn_inv {f : FuncId} {caps : List V} {r : Value} (h : RepV w A bl H (.fn f caps) r) : ∃ vs, r = .func (.func f) #[] vs /\ caps.length = vs.size /\ ∀ (j : Nat) (x : V) (u : Value), caps[j]? = some x -> vs[j]? = some u -> RepV w A bl H x u := by
 cases h with | fn _ _ vs h1 h2 => exact ⟨vs, rfl, h1, h2⟩
theorem repL_app {l m : List V} {us vs : List Value} (h : RepL w A bl H l us) (k : RepL w A bl H m vs) : RepL w A bl H (l ++ m) (us ++ vs) := by
 refine ⟨by rw [List.length_append, List.length_append, h.1, k.1], fun j x u hj hu => ?_⟩
 have hl := h.1
 rcases Nat.lt_or_ge j l.length with hlt | hge
 · rw [List.getElem?_append_left hlt] at hj
   rw [List.getElem?_append_left (by omega)] at hu
   exact h.2 j x u hj hu
 · rw [List.getElem?_append_right hge] at hj
   rw [List.getElem?_append_right (by omega), <- hl] at hu
   exact k.2 _ x u hj hu
theorem V.mapT_rep {f : Nat -> C -> C} (hf : ∀ z x u, RepC w A x u -> RepC w A (f z x) u) : ∀ (tags : List Nat) {v : V} {u : Value}, RepV w A bl H v u -> RepV w A bl H (v.mapT f tags) u := by
 have h1 : ∀ (z : Nat) {v : V} {u : Value}, RepV w A bl H v u -> RepV w A bl H (v.map1 f z) u := by
   intro z v u h
   unfold V.map1
   split
   · cases h with | c _ _ h => exact .c _ _ (hf _ _ _ h)
   · exact h
 have hl : ∀ (tags : List Nat) {l : List V} {us : List Value}, (∀ (j : Nat) (x : V) (u : Value), l[j]? = some x -> us[j]? = some u -> RepV w A bl H x u) -> ∀ (j : Nat) (x : V) (u : Value), (mapTags f tags l)[j]? = some x -> us[j]? = some u -> RepV w A bl H x u := by
   intro tags
   induction tags with
   | nil => intro l us h; simpa [mapTags] using h
   | cons z r ih =>
     intro l us h
     cases l with
     | nil => exact h
     | cons v l =>
       intro j x u hj hu
       cases us with
       | nil => simp at hu
       | cons u0 us =>
         cases j with
         | zero =>
           simp only [mapTags, List.getElem?_cons_zero, Option.some.injEq] at hj hu
           subst hj; subst hu
           exact h1 z (h 0 _ _ rfl rfl)
         | succ j => exact ih (fun j x u a b => h (j + 1) x u a b) j x u hj hu
 have hlen : ∀ (tags : List Nat) (l : List V), (mapTags f tags l).length = l.length := by
   intro tags
   induction tags with
   | nil => intro l; rfl
   | cons z r ih => intro l; cases l <;> simp [mapTags, ih]
 intro tags v u h
 unfold V.mapT
 split
 · cases h with
   | agg xs vs h1 h2 =>
     refine .agg _ _ (by rw [hlen]; exact h1) fun j x u hj hu => ?_
     exact hl tags (us := vs.toList) (fun j x u a b => h2 j x u a (by simpa using b)) j x u hj (by simpa using hu)
 · cases h with
   | c _ _ h =>
     split
     · exact .c _ _ (hf _ _ _ h)
     · exact .c _ _ h
 · exact h
theorem mapTL_rep {f : Nat -> C -> C} (hf : ∀ z x u, RepC w A x u -> RepC w A (f z x) u) : ∀ (tags : List (List Nat)) {l : List V} {us : List Value}, RepL w A bl H l us -> RepL w A bl H (mapTL f tags l) us
 | [], l, us, h => by simpa [mapTL] using h
 | t :: r, [], us, h => by simpa [mapTL] using h
 | t :: r, v :: l, us, h => by
   match us, h with
   | [], h => exact absurd h.1 (by simp)
   | u :: us, h =>
     have ih := mapTL_rep hf r (l := l) (us := us) ⟨by simpa using h.1, fun j x u hj hu => h.2 (j + 1) x u hj hu⟩
     refine ⟨by simp [mapTL, ih.1], fun j x u' hj hu => ?_⟩
     cases j with
     | zero =>
       simp only [mapTL, List.getElem?_cons_zero, Option.some.injEq] at hj hu
       subst hj; subst hu
       exact V.mapT_rep hf t (h.2 0 _ _ rfl rfl)
     | succ j => exact ih.2 j x u' hj hu
theorem RepO.mono2 {i : Nat} {o : O} (hl : Le w A bl H w' A' bl' H') (hbl : bl' i = bl i) (hk : ∀ b d, bl i = some (b, d) -> w'.heap[b]? = w.heap[b]?) (hn : ∀ r s, o ≠ .yo r s) (h : RepO w A bl H i o) : RepO w' A' bl' H' i o := by
 cases o with
 | gone => trivial
 | yo r s => exact absurd rfl (hn r s)
 | box cs =>
   obtain ⟨b, arr, t, h1, h2, h3, h4⟩ := h
   exact ⟨b, arr, t, hbl.trans h1, (hk _ _ h1).trans h2, h3, fun j x u hj hu => (h4 j x u hj hu).mono hl⟩
 | mem z e xs =>
   obtain ⟨h1, h2, h3⟩ := h
   refine ⟨h1, fun hn => h2 (hbl ▸ hn), fun b d hb => ?_⟩
   have hb' : bl i = some (b, d) := hbl ▸ hb
   obtain ⟨arr, t, g1, g2, g3⟩ := h3 b d hb'
   refine ⟨arr, t, (hk _ _ hb').trans g1, g2, fun k j cs x hx hj => ?_⟩
   obtain ⟨u, hu, hr⟩ := g3 k j cs x hx hj
   exact ⟨u, hu, hr.mono hl.C hl.A⟩
theorem yo_step (hH : RepH w A bl H) {i b : Nat} {e : List V} {r : List (List V)} {s : Bool} {X' : Nat -> Prop} (hi : H[i]? = some (.yo (e :: r) s)) (hs : soleYo H i = true) (hb : bl i = some (b, 0)) (hY : bl.cx.Y r s b A' X' w') (hy : YEvo w A bl.X b w' A' X') :
   RepH w' A' { bl with X := X' } (H.set i (.yo r s)) /\ Le w A bl H w' A' { bl with X := X' } (H.set i (.yo r s)) /\ Evo w A (Liv bl H) w' A' (Liv { bl with X := X' } (H.set i (.yo r s))) := by
 have hil : i < H.length := (List.getElem?_eq_some_iff.1 hi).1
 have hia : alive H i := ⟨_, hi, rfl⟩
 have at_ : ∀ j, (H.set i (.yo r s))[j]? = if j = i then some (.yo r s) else H[j]? := fun j => by
   by_cases h : j = i
   · subst h; rw [if_pos rfl, List.getElem?_set_self hil]
   · rw [if_neg h, List.getElem?_set_ne (Ne.symm h)]
 have al : ∀ j, alive (H.set i (.yo r s)) j -> alive H j := fun j ⟨o, h1, h2⟩ => by
   rw [at_] at h1
   split at h1
   · rename_i e; subst e; exact hia
   · exact ⟨o, h1, h2⟩
 have al' : ∀ j, alive H j -> alive (H.set i (.yo r s)) j := fun j ⟨o, h1, h2⟩ => by
   by_cases h : j = i
   · exact ⟨.yo r s, by rw [at_, if_pos h], rfl⟩
   · exact ⟨o, by rw [at_, if_neg h]; exact h1, h2⟩
 have far : ∀ {j c d}, j ≠ i -> alive H j -> bl j = some (c, d) -> w'.heap[c]? = w.heap[c]? := fun {j c d} hj ha hc =>
   hy.keep c (hH.lt j c d ha hc).1 (hH.xinj j c d ha hc) fun e => hH.inj j i c d 0 hj ha hia hc (e ▸ hb)
 have hbA := (hH.lt i b 0 hia hb)
 have farA : ∀ c, A c -> w'.heap[c]? = w.heap[c]? := fun c hc => hy.keep c (hH.alt c hc) (fun h => (hH.xlt c h).2 hc) (fun e => hbA.2 (e ▸ hc))
 have hl : Le w A bl H w' A' { bl with X := X' } (H.set i (.yo r s)) := by
   refine ⟨farA, hy.inc, by simp, fun j z e' xs' hj h => ?_, fun j cs' hj h => ?_, fun j r' s' hj h => ?_, rfl, fun j z e xs xs' c d n h0 h hc hr => ?_⟩
   · rw [at_] at h
     split at h
     · cases h
     · exact ⟨_, _, h, Nat.le_refl _, fun _ => ⟨rfl, rfl⟩⟩
   · rw [at_] at h
     split at h
     · cases h
     · exact ⟨_, h, rfl⟩
   · rw [at_] at h
     split at h
     · rename_i e; subst e; exact ⟨_, _, hi, rfl⟩
     · exact ⟨_, _, h, rfl⟩
   · have hji : j ≠ i := fun e => by subst e; rw [hi] at h0; cases h0
     rw [rowOf_keep (far hji ⟨_, h0, rfl⟩ hc)]; exact hr
 refine ⟨⟨fun j o hj => ?_, fun j k c d d' hjk ha ha' => hH.inj j k c d d' hjk (al j ha) (al k ha'), fun j c d ha hc => ?_, hy.alt, fun c hc => ⟨hy.xlt c hc, hy.dis c (.inl hc)⟩, fun j c d ha hc hX => ?_, hH.base.mono hy.inc farA⟩, hl, hy.os, hy.tape, hy.output, hy.size, fun c hc hL => ?_, fun c hc => ?_, fun c hc => ?_⟩
 · rw [at_] at hj
   split at hj
   · rename_i e
     subst e
     simp only [Option.some.injEq] at hj
     subst hj
     exact ⟨b, hb, hY⟩
   · rename_i hne
     cases ho : o.live with
     | false => cases o <;> simp [O.live] at ho; trivial
     | true =>
       refine (hH.obj j o hj).mono2 hl rfl (fun c d hc => far hne ⟨o, hj, ho⟩ hc) fun r' s' e => ?_
       subst e
       exact noYo_at hs j r' s' (by rw [List.getElem?_set_ne (Ne.symm hne)]; exact hj)
 · obtain ⟨h1, h2⟩ := hH.lt j c d (al j ha) hc
   exact ⟨Nat.lt_of_lt_of_le h1 hy.size, fun h => (hy.from_ c h).elim h2 fun h => h.elim (hH.xinj j c d (al j ha) hc) fun h => by omega⟩
 · exact (hy.live c hX).elim (hH.xinj j c d (al j ha) hc) fun h => by have := (hH.lt j c d (al j ha) hc).1; omega
 · exact hy.keep c hc (fun h => hL (.inr h)) fun e => hL (.inl ⟨i, 0, hia, e ▸ hb⟩)
 · rcases hc with ⟨j, d, ha, hc⟩ | hc
   · exact .inl (.inl ⟨j, d, al j ha, hc⟩)
   · exact (hy.live c hc).imp (fun h => .inr h) id
 · exact (hy.from_ c hc).imp id fun h => h.imp (fun h => .inr h) id
theorem RepV.yl_inv {i : Nat} {r : Value} (h : RepV w A bl H (.yl i) r) : ∃ b, r = .func (.yield b) #[] #[] /\ ∀ q s, H[i]? = some (.yo q s) -> bl i = some (b, 0) := by
 cases h with | yl _ b h1 h2 => exact ⟨b, rfl, h2⟩
theorem opx_sound {E : Env} {cf : CF} (hcf : CFok P K cf) (hcx : CtxOk P K bl0.cx) (hT : ∀ t y, E.T t = some y -> tyOf P t = some y) {g : FuncId} {o : Oper} {v : V} {k : Nat} (hI : Inv w0 A0 bl0 H0 z n w A bl fr H a) (h : opx E cf g fr H o = some (v, fr', H', k)) {next : Act -> World -> Prop} {Q : Exit -> Act -> World -> Prop}
   (hn : ∀ r w' A' bl', Inv w0 A0 bl0 H0 z n w' A' bl' fr' H' a -> RepV w' A' bl' H' v r -> next (a.put o.dst r) w') : o.wpIn z.F 0 P a w next Q := by
 have hcx : CtxOk P K bl.cx := by rw [hI.le.cx]; exact hcx
 refine ⟨fun _ _ => trivial, ?_⟩
 have base : ∀ {k}, op0 E.T (E.own g) fr H o = some (v, H', k) -> fr' = fr -> o.uponIn z.F 0 P a next Q ((o.semAt z.F.round a.eval).run P w) := by
   intro k h0 hfr
   subst hfr
   obtain ⟨r, w', A', bl', hrun, hv, hr, hl, he⟩ := op0_sound hT hI.rep hI.frm h0
   have hI' : Inv w0 A0 bl0 H0 z n w' A' bl' fr' H' a := hI.step hr (hI.frm.mono hl) (hI.le.trans hl) he
   have := hn r w' A' bl' hI' hv
   rw [Oper.semAt_eq _ _ _ (fun c hc => by simp [op0, hc] at h0)]
   rcases hrun with hrun | ⟨hrun, rfl⟩ <;> (rw [hrun]; exact this)
 unfold opx at h
 split at h
 · rename_i f args ts ho
   have hsem : o.semAt z.F.round a.eval = execOp a.eval o := Oper.semAt_eq _ _ _ (by simp [ho])
   rw [hsem]
   split at h
   case h_3 => simp at h
   case h_1 =>
     rename_i gf caps l hf hl
     split at h <;> simp only [Option.some.injEq, Prod.mk.injEq, reduceCtorEq] at h
     rename_i vals fr1 H1 k1 hx
     obtain ⟨rfl, rfl, rfl, _⟩ := h
     obtain ⟨us, hus, hcl, hcr⟩ := (opd_rep hI.frm hf).fn_inv
     obtain ⟨g1, g2⟩ := opdL_arr hI.frm hl
     have hargs : RepL w A bl H (l ++ caps) ((args.map a.eval).toList ++ us.toList) := repL_app ⟨by simpa using g1, fun j x u hj hu => g2 j x u hj (by simpa using hu)⟩ ⟨by simpa using hcl, fun j x u hj hu => hcr j x u hj (by simpa using hu)⟩
     have hargs := mapTL_rep (fun z x u => C.fix_rep (x := x) (u := u) z) (E.fx gf) hargs
     obtain ⟨hent, hc⟩ := xcall_sound hcf hcx hI.rep hI.frm hargs hx
     have hrun : (execOp a.eval o).run P w = .ok (.enter gf (args.map a.eval ++ us)) w := by
       have := hent (args.map a.eval ++ us) w
       simp only [execOp, ho, resolve, hus, Deferred.ofValue, Sem.run_bind, Sem.run_pure, Result.andThen_ok, invoke]
       simpa using this
     rw [hrun, Oper.uponIn_enter]
     have e2 : args.map a.eval ++ us = ((args.map a.eval).toList ++ us.toList).toArray := by simp
     rw [e2]
     refine ⟨fun h => by simp [Rnd.F, Fence.wide] at h, (callsIn_wide (n := 0 - 1)).2 (hc.mono ?_)⟩
     rintro e w' ⟨A', bl', rs, rfl, h1, h2, h3, h4, h5⟩
     exact hn _ w' A' bl' (hI.step h2 h3 (h5 _ _ _ _ hI.le) h4) (pack_rep h1)
   case h_2 =>
     rename_i i l hf hl
     split at h
     case h_2 => simp at h
     rename_i r s hi
     split at h <;> simp only [Option.some.injEq, Prod.mk.injEq, reduceCtorEq] at h
     rename_i hc
     obtain ⟨rfl, rfl, rfl, _⟩ := h
     obtain ⟨hhd, hsole⟩ := hc
     obtain ⟨b, hb, hbl⟩ := (opd_rep hI.frm hf).yl_inv
     have hbl := hbl _ _ hi
     cases r with
     | nil => simp [yoHd] at hhd
     | cons e r =>
       have hle := eqbV_eq hhd
       subst hle
       obtain ⟨b', hb', hY⟩ := hI.rep.obj i _ hi
       rw [hbl] at hb'
       simp only [Option.some.injEq, Prod.mk.injEq, and_true] at hb'
       subst hb'
       obtain ⟨g1, g2⟩ := opdL_arr hI.frm hl
       have hargs : RepL w A bl H l (args.map a.eval).toList := ⟨by simpa using g1, fun j x u hj hu => g2 j x u hj (by simpa using hu)⟩
       obtain ⟨f0, tm, asn, bd, hy1, hy2⟩ := hcx.yield hY bl H _ hargs
       have hrun : (execOp a.eval o).run P w = .ok (.round b f0 tm asn bd) w := by
         have e2 : (args.map a.eval).toList.toArray = args.map a.eval := Array.toArray_toList
         rw [e2] at hy1
         simp only [execOp, ho, resolve, hb, Deferred.ofValue, Sem.run_bind, Sem.run_pure, Result.andThen_ok, invoke]
         simp only [Array.empty_append]
         exact hy1
       rw [hrun, Oper.uponIn_round]
       refine ⟨fun h => by simp [Rnd.F, Fence.wide] at h, RoundIn.mono (F := Fence.wide) (n := 0) hy2 ?_⟩
       rintro en w' ⟨A', X', rfl, hY', hev⟩
       obtain ⟨q1, q2, q3⟩ := yo_step hI.rep hi hsole hbl hY' hev
       exact hn _ w' A' _ (hI.step q1 (hI.frm.mono q2) (hI.le.trans q2) q3) (.bool _)
 · split at h <;> simp only [Option.some.injEq, Prod.mk.injEq, reduceCtorEq] at h
   rename_i h0
   obtain ⟨rfl, rfl, rfl, _⟩ := h
   exact base h0 rfl
theorem runOps_sound {E : Env} {cf : CF} (hcf : CFok P K cf) (hcx : CtxOk P K bl0.cx) (hT : ∀ t y, E.T t = some y -> tyOf P t = some y) {g : FuncId} {ops : Array Oper} {Q : Exit -> Act -> World -> Prop} : ∀ (rest : List Oper) (i : Nat), ops.toList.drop i = rest -> ∀ {fr fr' : Fr} {H H' : Hp} {ks : List Nat} {w : World} {A : Nat -> Prop} {bl : Bl} {a : Act},
   runOps E cf g n ops.toList rest fr H = some (fr', H', ks) -> Inv w0 A0 bl0 H0 z n w A bl fr H a -> (∀ w' A' bl' a', Inv w0 A0 bl0 H0 z n w' A' bl' fr' H' a' -> Q .normal a' w') -> wpOpsIn z.F 0 P ops Q (List.range' i rest.length) a w
 | [], i, _, fr, fr', H, H', ks, w, A, bl, a, h, hI, hQ => by
   simp only [runOps, Option.some.injEq, Prod.mk.injEq] at h
   obtain ⟨rfl, rfl, _⟩ := h
   exact hQ _ _ _ _ hI
 | o :: rest, i, hd, fr, fr', H, H', ks, w, A, bl, a, h, hI, hQ => by
   have hoi : ops[i]? = some o := by
     have : (ops.toList.drop i)[0]? = some o := by rw [hd]; rfl
     simpa using this
   have hd' : ops.toList.drop (i + 1) = rest := by
     rw [<- List.drop_drop, hd]; rfl
   simp only [List.length_cons, List.range'_succ, wpOpsIn, hoi]
   simp only [runOps] at h
   split at h
   · simp at h
   · rename_i hw
     split at h
     case h_2 => simp at h
     rename_i fr1 hp
     split at h <;> simp only [Option.some.injEq, Prod.mk.injEq, reduceCtorEq] at h
     rename_i fr2 H2 ks2 hrest
     obtain ⟨rfl, rfl, _⟩ := h
     rw [wanted_of hI.frm hw]
     simp only [Bool.false_eq_true, if_false]
     exact ⟨fun _ _ => trivial, runOps_sound hcf hcx hT rest (i + 1) hd' hrest (hI.put .undef hp) hQ⟩
   · rename_i hw
     split at h
     case h_2 => simp at h
     rename_i v fr1 H1 k1 hx
     split at h
     case h_2 => simp at h
     rename_i fr2 hp
     split at h <;> simp only [Option.some.injEq, Prod.mk.injEq, reduceCtorEq] at h
     rename_i fr3 H3 ks3 hrest
     obtain ⟨rfl, rfl, _⟩ := h
     rw [wanted_of hI.frm hw]
     simp only [if_true]
     exact (opx_sound hcf hcx hT hI hx fun r w' A' bl' hI' hv => runOps_sound hcf hcx hT rest (i + 1) hd' hrest (hI'.put hv hp) hQ)
theorem maskF_get : ∀ {l : List Nat} {fr : Fr} {t : Nat} {v : V}, get (maskF l fr) t = some v -> get fr t = some v
 | [], fr, t, v, h => by simp [maskF, get] at h
 | k :: l, fr, t, v, h => by
   simp only [maskF] at h
   split at h
   · rename_i x hx
     simp only [get] at h
     split at h
     · rename_i he
       simp only [Option.some.injEq] at h
       subst h; subst he; exact hx
     · exact maskF_get h
   · exact maskF_get h
theorem maskO_get {l : Option (List Nat)} {t : Nat} {v : V} (h : get (maskO l fr) t = some v) : get fr t = some v := by
 unfold maskO at h
 split at h
 · exact maskF_get h
 · exact h
def DrawOk (P : Program) (K : World -> Prop) : Prop := ∀ (E : Env) (cf : CF), CFok P K cf -> (∀ t y, E.T t = some y -> tyOf P t = some y) -> ∀ (g : FuncId) (id n : Nat) (ops : Array Oper) (Q : Exit -> Act -> World -> Prop) (w0 : World) (A0 : Nat -> Prop) (bl0 : Bl) (H0 : Hp) (z : Rnd) (fr fr' : Fr) (H H' : Hp) (ks : List Nat) (w : World) (A : Nat -> Prop) (bl : Bl) (a : Act),
   CtxOk P K bl0.cx -> runOps E cf g n ops.toList ops.toList fr H = some (fr', H', ks) -> drawOk E.T (E.own g) ops.toList ks = true -> Inv w0 A0 bl0 H0 z n w A bl fr H a -> (∀ w' A' bl' a', Inv w0 A0 bl0 H0 z n w' A' bl' fr' H' a' -> Q .normal a' w') -> (Code.region id ops true).wpIn z.F 0 P Q a w
theorem region_sound (hdraw : DrawOk P K) {E : Env} {cf : CF} (hcf : CFok P K cf) (hcx : CtxOk P K bl0.cx) (hT : ∀ t y, E.T t = some y -> tyOf P t = some y) {g : FuncId} {id : Nat} {ops : Array Oper} {draw : Bool} {s s' : St} (h : region E cf g n id ops.toList draw s = some s') {Q : Exit -> Act -> World -> Prop}
   (hI : Inv w0 A0 bl0 H0 z n w A bl s.fr s.hp a) (hQ : ∀ w' A' bl' a', Inv w0 A0 bl0 H0 z n w' A' bl' s'.fr s'.hp a' -> Q .normal a' w') : (Code.region id ops draw).wpIn z.F 0 P Q a w := by
 unfold region at h
 split at h
 case h_2 => simp at h
 rename_i fr1 H1 ks hrun
 split at h <;> simp only [Option.some.injEq, reduceCtorEq] at h
 rename_i hc
 subst h
 have hQ' : ∀ w' A' bl' a', Inv w0 A0 bl0 H0 z n w' A' bl' fr1 H1 a' -> Q .normal a' w' := fun w' A' bl' a' hI' => hQ w' A' bl' a' (hI'.frame fun t v ht => maskO_get ht)
 cases draw with
 | false =>
   refine wpIn_region ?_
   have := runOps_sound (Q := Q) hcf hcx hT ops.toList 0 (by simp) hrun hI hQ'
   rw [List.range_eq_range']
   simpa using this
 | true => exact hdraw E cf hcf hT g id n ops Q w0 A0 bl0 H0 z _ _ _ _ ks w A bl a hcx hrun (by simpa using hc) hI hQ'
def exOf : Ex -> Exit
 | .nrm => .normal
 | .exit i => .exit i
 | .ret => .ret
theorem sub_le {A : Nat -> Prop} (hl : Le w0 A0 bl0 H0 w A bl H) {keep : List Nat} {h0 : Hp} (ht : take keep H keep = some h0) (hpre : ∀ i, i < H0.length -> keep[i]? = some i) : Le w0 A0 bl0 H0 w A (subBl bl keep) h0 := by
 obtain ⟨t1, t2⟩ := take_at ht
 have at_ : ∀ {i o}, i < H0.length -> h0[i]? = some o -> ∃ o', H[i]? = some o' /\ o = o'.ren (idx keep) := by
   intro i o hi ho
   obtain ⟨o', k1, k2⟩ := t2 i i (hpre i hi)
   rw [k2] at ho
   simp only [Option.some.injEq] at ho
   exact ⟨o', k1, ho.symm⟩
 have hb : ∀ {i}, i < H0.length -> subBl bl keep i = bl i := fun {i} hi => by simp [subBl, hpre i hi]
 refine ⟨hl.C, hl.A, ?_, fun i z e xs hi h => ?_, fun i cs hi h => ?_, fun i r s hi h => ?_, hl.cx, fun i z e xs xs' b d n h1 h2 => ?_⟩
 · rw [t1]
   rcases Nat.eq_zero_or_pos H0.length with h | h
   · omega
   · have := (List.getElem?_eq_some_iff.1 (hpre (H0.length - 1) (by omega))).1
     omega
 · obtain ⟨o', k1, k2⟩ := at_ hi h
   have := O.ren_mem k2
   subst this
   obtain ⟨e0, xs0, q1, q2, q3⟩ := hl.mem i z e xs hi k1
   exact ⟨e0, xs0, q1, q2, fun he => ⟨(q3 he).1, (hb hi).trans (q3 he).2⟩⟩
 · obtain ⟨o', k1, k2⟩ := at_ hi h
   obtain ⟨cs0, rfl, _⟩ := O.ren_box k2
   obtain ⟨cs1, q1, q2⟩ := hl.box i cs0 hi k1
   exact ⟨cs1, q1, (hb hi).trans q2⟩
 · obtain ⟨o', k1, k2⟩ := at_ hi h
   have := O.ren_yo k2
   subst this
   obtain ⟨r1, s1, q1, q2⟩ := hl.yo i _ _ hi k1
   exact ⟨r1, s1, q1, (hb hi).trans q2⟩
 · have hi := (List.getElem?_eq_some_iff.1 h1).1
   obtain ⟨o', k1, k2⟩ := at_ hi h2
   have := O.ren_mem k2
   subst this
   exact hl.row i z e xs xs' b d n h1 k1
theorem gcK_pre {m : Nat} {roots : List Nat} {i : Nat} (hi : i < m) : (gcK m roots H)[i]? = some i := by
 unfold gcK
 dsimp only
 rw [List.getElem?_append_left (by simpa using hi)]
 simp [hi]
theorem norm_parts {E : Env} {g : FuncId} {body : Code} {s s' : St} {tmps : Array Value} (h : norm E g H0.length body s = some s') (hr : RepH w A bl s.hp) (hf : RepF w A bl s.hp s.fr tmps) (hl : Le w0 A0 bl0 H0 w A bl s.hp) :
   ∃ bl', RepH w A bl' s'.hp /\ RepF w A bl' s'.hp s'.fr tmps /\ Le w0 A0 bl0 H0 w A bl' s'.hp /\ ∀ c, Liv bl' s'.hp c -> Liv bl s.hp c := by
 unfold norm at h
 dsimp only at h
 have hf1 : RepF w A bl s.hp (maskO ((firstReg body).bind (E.head g)) s.fr) tmps := ⟨fun t v ht => hf.at_ t v (maskO_get ht)⟩
 split at h
 · simp only [Option.some.injEq] at h
   subst h
   exact ⟨bl, hr, hf1, hl, fun _ h => h⟩
 · split at h
   case h_2 => simp at h
   rename_i h0 ht
   split at h <;> simp only [Option.some.injEq, reduceCtorEq] at h
   rename_i hd
   subst h
   refine ⟨_, young_rep (sub_rep hr ht hd), ⟨fun t v hg => ?_⟩, young_le (sub_le hl ht fun i hi => gcK_pre hi) (Nat.le_refl _), fun c hc => sub_liv ht (young_liv.1 hc)⟩
   obtain ⟨x, h1, rfl⟩ := youngF_get hg
   obtain ⟨y, h4, rfl⟩ := renF_get h1
   obtain ⟨u, h2, h3⟩ := hf1.at_ t y h4
   exact ⟨u, h2, (h3.ren (sub_ren ht)).young⟩
theorem Evo.less {L : Nat -> Prop} {L' : Nat -> Prop} (hh : ∀ c, L' c -> L c) : Evo w A L w A L' := ⟨rfl, rfl, rfl, Nat.le_refl _, fun _ _ _ => rfl, fun c hc => .inl (hh c hc), fun _ h => .inl h⟩
theorem norm_sound {E : Env} {g : FuncId} {body : Code} {s s' : St} (h : norm E g H0.length body s = some s') (hI : Inv w0 A0 bl0 H0 z n w A bl s.fr s.hp a) : ∃ bl', Inv w0 A0 bl0 H0 z n w A bl' s'.fr s'.hp a := by
 obtain ⟨bl', h1, h2, h3, h4⟩ := norm_parts h hI.rep hI.frm hI.le
 exact ⟨bl', hI.step h1 h2 h3 (Evo.less h4)⟩
def CSound (P : Program) (K : World -> Prop) (n : Nat) (c : Code) (m : Nat) (s : St) (ex : Ex) (s' : St) : Prop := ∀ (w0 : World) (A0 : Nat -> Prop) (bl0 : Bl) (H0 : Hp) (z : Rnd) (w : World) (A : Nat -> Prop) (bl : Bl) (a : Act) (Q : Exit -> Act -> World -> Prop), H0.length = m -> CtxOk P K bl0.cx →
 Inv w0 A0 bl0 H0 z n w A bl s.fr s.hp a -> (∀ w' A' bl' a', Inv w0 A0 bl0 H0 z n w' A' bl' s'.fr s'.hp a' -> Q (exOf ex) a' w') -> c.wpIn z.F 0 P Q a w
end
end Go.Ev
