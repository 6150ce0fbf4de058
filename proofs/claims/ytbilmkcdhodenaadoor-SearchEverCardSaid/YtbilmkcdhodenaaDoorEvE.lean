/-
  EV, part E: the operations that make memory; append.
-/
import Derived.Test.YtbilmkcdhodenaaDoorEvD
import Derived.Deep.Upon
set_option linter.all false
set_option linter.unusedSimpArgs false
set_option linter.unusedVariables false
namespace Go.Ev
section
variable {P : Program} {w w' : World} {A : Nat → Prop} {bl : Bl} {H : Hp} {fr : Fr} {a : Act}

theorem heap_alloc_new (w : World) (o : Obj) : (w.alloc o).heap[w.heap.size]? = some o := by
  show (w.heap.push o)[w.heap.size]? = _
  simp

/-- A new variable. -/
theorem push_box (hH : RepH w A bl H) {cs : List V} {us : Array Value} (hl : cs.length = us.size) (hr : ∀ (j : Nat) (x : V) (u : Value), cs[j]? = some x → us[j]? = some u → RepV w A bl H x u) (t : TypeId) :
    ∃ bl', RepH (w.alloc (.cells us t)) A bl' (H ++ [.box cs]) ∧ Le w A bl H (w.alloc (.cells us t)) A bl' (H ++ [.box cs]) ∧ Evo w A (Liv bl H) (w.alloc (.cells us t)) A (Liv bl' (H ++ [.box cs])) ∧
      RepV (w.alloc (.cells us t)) A bl' (H ++ [.box cs]) (.ptr H.length 0 0 0) (.pointer (some ⟨w.heap.size, 0, none⟩)) := by
  have hle := le_push hH (Grow.alloc w (.cells us t)) (A' := A) (fun b hb => hb) (.box cs) (some (w.heap.size, 0))
  obtain ⟨h1, h2, h3⟩ := push hH (Grow.alloc w (.cells us t)) (.box cs) (some (w.heap.size, 0)) (fun b d h => by simp only [Option.some.injEq, Prod.mk.injEq] at h; simp; omega)
    ⟨w.heap.size, us, t, upd_same, heap_alloc_new _ _, hl.symm, fun j x u hj hu => (hr j x u hj hu).mono hle⟩
  refine ⟨_, h1, h2, h3, .ptr _ _ _ _ _ (by simp) (fun z e xs h => by simp at h) (fun cs' h => ⟨_, upd_same, fun _ => rfl⟩) (fun z xs h => by simp at h)⟩

/-- A new row. -/
theorem push_mem (hH : RepH w A bl H) {z : Nat} {xs : List (List C)} {arr : Array Value} {t : TypeId} (g : Grow w w') (hs : w'.heap.size = w.heap.size + 1) (hw : w'.heap[w.heap.size]? = some (.cells arr t (0, 0))) (hz : ∀ cs ∈ xs, cs.length = z) (hfit : xs.length * z ≤ arr.size)
    (hr : ∀ (k j : Nat) (cs : List C) (x : C), xs[k]? = some cs → cs[j]? = some x → ∃ u, arr[k * z + j]? = some u ∧ RepC w A x u) :
    ∃ bl', bl' H.length = some (w.heap.size, 0) ∧ RepH w' A bl' (H ++ [.mem z 0 xs]) ∧ Le w A bl H w' A bl' (H ++ [.mem z 0 xs]) ∧ Evo w A (Liv bl H) w' A (Liv bl' (H ++ [.mem z 0 xs])) := by
  have hle := le_push hH g (A' := A) (fun b hb => hb) (.mem z 0 xs) (some (w.heap.size, 0))
  obtain ⟨h1, h2, h3⟩ := push hH g (.mem z 0 xs) (some (w.heap.size, 0)) (fun b d h => by simp only [Option.some.injEq, Prod.mk.injEq] at h; omega)
    ⟨hz, fun hn => by rw [upd_same] at hn; simp at hn, fun b d hb => by
      rw [upd_same] at hb
      simp only [Option.some.injEq, Prod.mk.injEq] at hb
      obtain ⟨rfl, rfl⟩ := hb
      refine ⟨arr, t, hw, by omega, fun k j cs x hk hj => ?_⟩
      obtain ⟨u, hu1, hu2⟩ := hr k j cs x hk hj
      exact ⟨u, by rw [Nat.zero_add]; exact hu1, hu2.mono hle.C hle.A⟩⟩
  exact ⟨_, upd_same, h1, h2, h3⟩

/-- A row that holds nothing yet. -/
theorem push_none (hH : RepH w A bl H) (z : Nat) : ∃ bl', bl' H.length = none ∧ RepH w A bl' (H ++ [.mem z 0 []]) ∧ Le w A bl H w A bl' (H ++ [.mem z 0 []]) ∧ Evo w A (Liv bl H) w A (Liv bl' (H ++ [.mem z 0 []])) := by
  obtain ⟨h1, h2, h3⟩ := push hH (Grow.refl w) (.mem z 0 []) none (fun b d h => by simp at h)
    ⟨fun cs h => by simp at h, fun _ => rfl, fun b d hb => by rw [upd_same] at hb; simp at hb⟩
  exact ⟨_, upd_same, h1, h2, h3⟩

theorem buf_none {bl' : Bl} {H' : Hp} {i z : Nat} (hi : H'[i]? = some (.mem z 0 [])) : RepV w A bl' H' (.buf i 0 0 0) (.slice none 0 0) := by
  refine .buf i 0 0 0 none 0 0 (List.getElem?_eq_some_iff.1 hi).1 (fun z e xs _ => Nat.zero_le _) fun z' xs' h => ?_
  rw [hi] at h
  simp only [Option.some.injEq, O.mem.injEq] at h
  obtain ⟨rfl, _, rfl⟩ := h
  exact ⟨by simp, rfl, ⟨Nat.le_refl _, fun h => absurd rfl h, fun _ => rfl⟩, fun h => absurd rfl h⟩

/-! ## filling -/
theorem foldl_set : ∀ (vs : List Value) (k off : Nat) (cells : Array Value), off + k + vs.length ≤ cells.size →
    ((vs.zipIdx k).foldl (fun cs (p : Value × Nat) => cs.setIfInBounds (off + p.2) p.1) cells).toList = splice cells.toList (off + k) vs
  | [], k, off, cells, h => by simp [splice]
  | v :: vs, k, off, cells, h => by
    simp only [List.length_cons] at h
    simp only [List.zipIdx_cons, List.foldl_cons]
    have ih := foldl_set vs (k + 1) off (cells.setIfInBounds (off + k) v) (by simp; omega)
    rw [ih]
    simp only [Array.toList_setIfInBounds]
    have h1 : off + k < cells.toList.length := by simp; omega
    apply List.ext_getElem?
    intro j
    rw [splice_get (by simp; omega), splice_get (by simp; omega)]
    simp only [List.length_cons]
    by_cases hj : j = off + k
    · subst hj
      rw [if_neg (by omega), if_pos (by omega)]
      rw [List.getElem?_set_self h1]
      simp
    · rw [List.getElem?_set_ne (Ne.symm hj)]
      by_cases h2 : off + (k + 1) ≤ j ∧ j < off + (k + 1) + vs.length
      · rw [if_pos h2, if_pos (by omega)]
        have : j - (off + k) = (j - (off + (k + 1))) + 1 := by omega
        rw [this]; simp
      · rw [if_neg h2, if_neg (by omega)]

theorem fill_run {place : Nat → Option (Nat × Nat)} : ∀ {l : List (Nat × V)} {ul : List (Nat × Value)} {cells out : List V} {ucells : Array Value}, fillP place cells l = some out → l.length = ul.length →
    (∀ (j : Nat) (x : Nat × V) (u : Nat × Value), l[j]? = some x → ul[j]? = some u → x.1 = u.1 ∧ RepV w A bl H x.2 u.2) → RepL w A bl H cells ucells.toList →
    ∃ uout : Array Value, Instr.fill place ucells ul = some uout ∧ RepL w A bl H out uout.toList
  | [], ul, cells, out, ucells, h, hl, hr, hc => by
    obtain rfl : ul = [] := List.eq_nil_of_length_eq_zero hl.symm
    simp only [fillP, Option.some.injEq] at h
    subst h
    exact ⟨ucells, rfl, hc⟩
  | (i, v) :: l, ul, cells, out, ucells, h, hl, hr, hc => by
    match ul, hl with
    | (i', u) :: ul, hl =>
    obtain ⟨h1, h2⟩ := hr 0 _ _ rfl rfl
    simp only at h1 h2
    subst h1
    simp only [fillP] at h
    split at h
    case h_2 => simp at h
    rename_i off size hp
    split at h
    case isFalse => simp at h
    rename_i hcnd
    obtain ⟨c1, c2, c3⟩ := hcnd
    obtain ⟨r1, r2, r3⟩ := h2.cells c3
    have hcl := hc.1
    simp only [Array.length_toList] at hcl
    have hf := foldl_set u.cells.toList 0 off ucells (by simp; omega)
    have hstep : RepL w A bl H (splice cells off v.cells) ((u.cells.zipIdx.foldl (fun cs (p : Value × Nat) => cs.setIfInBounds (off + p.2) p.1) ucells).toList) := by
      have e : (u.cells.zipIdx.foldl (fun cs (p : Value × Nat) => cs.setIfInBounds (off + p.2) p.1) ucells).toList = splice ucells.toList off u.cells.toList := by
        simp only [Nat.add_zero] at hf
        rw [← hf, ← Array.foldl_toList]
        simp
      rw [e]
      refine ⟨by rw [splice_len (by omega), splice_len (by simp; omega)]; simpa using hcl, fun j x y hj hy => ?_⟩
      rw [splice_get (by omega)] at hj
      rw [splice_get (by simp; omega)] at hy
      simp only [Array.length_toList, r1] at hy
      split at hj
      · rename_i hin; rw [if_pos hin] at hy; exact r2 _ _ _ hj (by simpa using hy)
      · rename_i hin; rw [if_neg hin] at hy; exact hc.2 _ _ _ hj hy
    obtain ⟨uout, g1, g2⟩ := fill_run h (by simpa using hl) (fun j x u hj hu => hr (j + 1) x u (by simpa using hj) (by simpa using hu)) hstep
    refine ⟨uout, ?_, g2⟩
    simp only [Instr.fill, hp]
    rw [if_neg (by simp [r1, c1]; omega)]
    exact g1

theorem opdP_rep (hF : RepF w A bl H fr a.tmps) : ∀ {xs : List (Nat × Operand)} {vs : List (Nat × V)}, opdP fr xs = some vs → vs.length = (xs.map fun p => (p.1, a.eval p.2)).length ∧
    ∀ (j : Nat) (x : Nat × V) (u : Nat × Value), vs[j]? = some x → (xs.map fun p => (p.1, a.eval p.2))[j]? = some u → x.1 = u.1 ∧ RepV w A bl H x.2 u.2
  | [], vs, h => by
    simp only [opdP, Option.some.injEq] at h
    subst h
    exact ⟨rfl, fun j x u hj => by simp at hj⟩
  | (i, x) :: r, vs, h => by
    simp only [opdP] at h
    split at h <;> simp only [Option.some.injEq, reduceCtorEq] at h
    rename_i v l h1 h2
    subst h
    obtain ⟨g1, g2⟩ := opdP_rep hF h2
    refine ⟨by simp at g1; simp [g1], fun j y u hj hu => ?_⟩
    cases j with
    | zero =>
      simp only [List.getElem?_cons_zero, Option.some.injEq, List.map_cons] at hj hu
      subst hj; subst hu
      exact ⟨rfl, opd_rep hF h1⟩
    | succ j =>
      simp only [List.getElem?_cons_succ, List.map_cons] at hj hu
      exact g2 j y u hj hu

theorem repL_zero {m : List C} {l : List Value} (h : cOfL l = some m) : RepL w A bl H (m.map .c) l :=
  ⟨by simp [cOfL_len h], fun j x u hj hu => by
    simp only [List.getElem?_map, Option.map_eq_some_iff] at hj
    obtain ⟨c, hc, rfl⟩ := hj
    exact .c _ _ (cOfL_rep h j c u hc hu)⟩

theorem repL_zeroF {m m' : List C} {l : List Value} (h : cOfL l = some m) (hf : FixOf m m') : RepL w A bl H (m'.map .c) l :=
  ⟨by simp [hf.length, cOfL_len h], fun j x u hj hu => by
    simp only [List.getElem?_map, Option.map_eq_some_iff] at hj
    obtain ⟨c, hc, rfl⟩ := hj
    exact .c _ _ (hf.rep (fun j x u h1 h2 => cOfL_rep h j x u h1 h2) j c u hc hu)⟩

theorem run_zeroValue {t : TypeId} {i : TypeInfo} {z : Value} (hi : P.info? t = some i) (hz : i.zero = some z) (w : World) : (zeroValue t).run P w = .ok z w := by
  simp [zeroValue, typeInfo, hi, hz]

theorem run_mapM_pure {α β : Type} (f : α → Sem β) (g : α → β) (w : World) : ∀ (l : List α), (∀ x ∈ l, (f x).run P w = .ok (g x) w) → (l.mapM f).run P w = .ok (l.map g) w
  | [], _ => by simp
  | x :: l, h => by
    have ih := run_mapM_pure f g w l (fun y hy => h y (by simp [hy]))
    simp only [List.mapM_cons, Sem.run_bind, h x (by simp), Result.andThen_ok, ih, Sem.run_pure, List.map_cons]
theorem run_mapM_array {α β : Type} (f : α → Sem β) (g : α → β) (w : World) (l : Array α) (h : ∀ x ∈ l, (f x).run P w = .ok (g x) w) : (l.mapM f).run P w = .ok (l.map g) w := by
  rw [Array.mapM_eq_mapM_toList, Sem.run_map, run_mapM_pure f g w l.toList (fun x hx => h x (by simpa using hx))]
  simp only [Result.andThen_ok]
  congr 1
  apply Array.ext'
  simp

/-- The zero value of a type that is no array. -/
theorem zero_of {t : TypeId} {y : Ty} {i : TypeInfo} {d : TypeDesc} (hi : TyIs P t y i d) (h : y.zero.length = y.size) : ∃ z, i.zero = some z ∧ RepL w A bl H (y.zero.map .c) z.cells.toList ∧ z.cells.size = y.size := by
  obtain ⟨z, l, h1, h2, h3⟩ := hi.zero h
  exact ⟨z, h1, repL_zeroF h2 h3, by have := cOfL_len h2; have := h3.length; simp at *; omega⟩

theorem op_build {T : TypeId → Option Ty} (hT : ∀ t y, T t = some y → tyOf P t = some y) {t : TypeId} {y : Ty} (ht : T t = some y) {fs : List (Nat × Nat × Bool)} (hk : y.k = .struct fs) {l : List (Nat × V)} {ul : Array (Nat × Value)} (hl : l.length = ul.size)
    (hr : ∀ (j : Nat) (x : Nat × V) (u : Nat × Value), l[j]? = some x → ul[j]? = some u → x.1 = u.1 ∧ RepV w A bl H x.2 u.2) {out : List V}
    (h : fillP (placeOf fs) (y.zero.map .c) l = some out) : ∃ r, (Instr.build t ul).run P w = .ok r w ∧ RepV w A bl H (.agg out) r := by
  obtain ⟨i, d, hi⟩ := get_wf hT ht
  obtain ⟨la, rfl, hfs⟩ := kOf_struct (hk.symm.trans hi.k)
  obtain ⟨z, hz1, hz2, hz3⟩ := zero_of (w := w) (A := A) (bl := bl) (H := H) hi (hi.zero' (fun n e he => by cases he))
  have hfl := hi.flds
  simp only [fieldsOk, List.all_eq_true, Bool.and_eq_true] at hfl
  have hpl : (la.mapM fun f => do pure (f.offset, ← sizeOf f.type) : Sem (Array (Nat × Nat))).run P w = .ok (la.map fun f => (f.offset, sizeAt P f.type)) w :=
    run_mapM_array _ _ w la (fun f hf => by
      obtain ⟨q1, _⟩ := hfl f (by simpa using hf)
      obtain ⟨gi, hgi⟩ := Option.isSome_iff_exists.1 q1
      simp [run_sizeAt hgi])
  have hpe : placeOf fs = fun i => (la.map fun f => (f.offset, sizeAt P f.type))[i]? := by
    funext i
    unfold placeOf
    rw [hfs]
    simp only [List.getElem?_map, Array.getElem?_toList, Array.getElem?_map]
    cases la[i]? <;> rfl
  rw [hpe] at h
  obtain ⟨uout, g1, g2⟩ := fill_run h (ul := ul.toList) (by simpa using hl) (fun j x u hj hu => hr j x u hj (by simpa using hu)) hz2
  refine ⟨.agg uout, ?_, .agg _ _ (by simpa using g2.1) (fun j x u hj hu => g2.2 j x u hj (by simpa using hu))⟩
  unfold Instr.build
  simp only [Sem.run_bind, run_zeroValue hi.info hz1, Result.andThen_ok, run_underlying hi.und, hpl, g1, Sem.run_pure]

theorem chunk_spec {sz : Nat} : ∀ (n : Nat) (l : List C), l.length = n * sz → (chunk sz n l).length = n ∧ (∀ cs ∈ chunk sz n l, cs.length = sz) ∧ ∀ (k j : Nat) (cs : List C) (x : C), (chunk sz n l)[k]? = some cs → cs[j]? = some x → l[k * sz + j]? = some x
  | 0, l, _ => ⟨rfl, by simp [chunk], by simp [chunk]⟩
  | n + 1, l, h => by
    rw [Nat.add_mul, Nat.one_mul] at h
    obtain ⟨h1, h2, h3⟩ := chunk_spec (sz := sz) n (l.drop sz) (by simp; omega)
    refine ⟨by simp [chunk, h1], fun cs hcs => ?_, fun k j cs x hk hj => ?_⟩
    · simp only [chunk, List.mem_cons] at hcs
      rcases hcs with rfl | h
      · simp; omega
      · exact h2 cs h
    · cases k with
      | zero =>
        simp only [chunk, List.getElem?_cons_zero, Option.some.injEq] at hk
        subst hk
        rw [List.getElem?_take] at hj
        split at hj <;> simp_all
      | succ k =>
        simp only [chunk, List.getElem?_cons_succ] at hk
        have := h3 k j cs x hk hj
        rw [List.getElem?_drop] at this
        rw [← this]; congr 1
        rw [Nat.add_mul]; omega

theorem pureL_map : ∀ {l : List V} {m : List C}, pureL l = some m → l = m.map .c
  | [], m, h => by simp [pureL] at h; subst h; rfl
  | x :: l, m, h => by
    cases x <;> simp only [pureL, reduceCtorEq] at h
    split at h <;> simp only [Option.some.injEq, reduceCtorEq] at h
    rename_i m' hm'
    subst h
    rw [pureL_map hm']; rfl

theorem fillP_len {place : Nat → Option (Nat × Nat)} : ∀ {l : List (Nat × V)} {cells out : List V}, fillP place cells l = some out → out.length = cells.length
  | [], cells, out, h => by simp only [fillP, Option.some.injEq] at h; rw [h]
  | (i, v) :: l, cells, out, h => by
    simp only [fillP] at h
    split at h
    case h_2 => simp at h
    split at h
    case isFalse => simp at h
    rename_i hc
    rw [fillP_len h, splice_len (by omega)]

theorem flatten_rep {n : Nat} {m : List C} {us : List Value} (h : RepL w A bl H (m.map .c) us) : RepL w A bl H ((List.replicate n m).flatten.map .c) ((List.replicate n us).flatten) := by
  induction n with
  | zero => exact ⟨by simp, fun j x u hj => by simp at hj⟩
  | succ n ih =>
    simp only [List.replicate_succ, List.flatten_cons, List.map_append]
    refine ⟨by rw [List.length_append, List.length_append, h.1, ih.1], fun j x u hj hu => ?_⟩
    rcases Nat.lt_or_ge j m.length with hlt | hge
    · rw [List.getElem?_append_left (by simpa using hlt)] at hj
      rw [List.getElem?_append_left (by have := h.1; simp at this; omega)] at hu
      exact h.2 j x u hj hu
    · rw [List.getElem?_append_right (by simpa using hge)] at hj
      rw [List.getElem?_append_right (by have := h.1; simp at this; omega)] at hu
      have e : us.length = m.length := by have := h.1; simp at this; omega
      rw [e] at hu
      simp only [List.length_map] at hj
      exact ih.2 _ x u hj hu

/-- A slice's literal: a new row that is only read. -/
theorem op_buildSlice0 {T : TypeId → Option Ty} (hT : ∀ t y, T t = some y → tyOf P t = some y) {t e : TypeId} {y ye : Ty} (ht : T t = some y) (hk : y.k = .slice e) (he : T e = some ye) {n : Nat} (hn : n * ye.size ≤ 65536) (hz : ye.zero.length = ye.size) {l : List (Nat × V)} {ul : Array (Nat × Value)} (hl : l.length = ul.size)
    (hr : ∀ (j : Nat) (x : Nat × V) (u : Nat × Value), l[j]? = some x → ul[j]? = some u → x.1 = u.1 ∧ RepV w A bl H x.2 u.2) {out : List V} {cs : List C}
    (h : fillP (fun i => some (i * ye.size, ye.size)) ((List.replicate n ye.zero).flatten.map .c) l = some out) (hp : pureL out = some cs) :
    ∃ uout : Array Value, (Instr.buildSlice t n ul).run P w = .ok (.slice (some ⟨w.heap.size, 0, none⟩) n n) (w.alloc (.cells uout e)) ∧ uout.size = n * ye.size ∧ cs.length = n * ye.size ∧
      ∀ (j : Nat) (x : C), cs[j]? = some x → ∃ u, uout[j]? = some u ∧ RepC w A x u := by
  obtain ⟨i, d, hi⟩ := get_wf hT ht
  have hd : d = .slice e := kOf_slice (hk.symm.trans hi.k)
  subst hd
  obtain ⟨ei, ed, hei⟩ := get_wf hT he
  obtain ⟨z, hz1, hz2, hz3⟩ := zero_of (w := w) (A := A) (bl := bl) (H := H) hei hz
  have hrep := flatten_rep (n := n) hz2
  -- the zero cells, as the machine lays them
  have hzero : ∀ z' : Array Value, (n * ye.size = 0 ∨ z' = z.cells) → ((Array.range (n * ye.size)).map (z'[· % z'.size]!)).toList = (List.replicate n z.cells.toList).flatten := by
    intro z' hz'
    apply List.ext_getElem?
    intro j
    by_cases hj : j < n * ye.size
    · have hz' : z' = z.cells := hz'.resolve_left (by omega)
      subst hz'
      simp only [Array.toList_map, List.getElem?_map]
      rw [show (Array.range (n * ye.size)).toList[j]? = some j by simp [hj]]
      simp only [Option.map_some]
      have hs : 0 < ye.size := by rcases Nat.eq_zero_or_pos ye.size with h0 | h0; (rw [h0] at hj; omega); exact h0
      have key : ∀ (n j : Nat), j < n * ye.size → (List.replicate n z.cells.toList).flatten[j]? = some z.cells[j % z.cells.size]! := by
        intro n
        induction n with
        | zero => intro j h; omega
        | succ n ih =>
          intro j h
          rw [Nat.add_mul, Nat.one_mul] at h
          simp only [List.replicate_succ, List.flatten_cons]
          rcases Nat.lt_or_ge j ye.size with hlt | hge
          · rw [List.getElem?_append_left (by simp; omega)]
            rw [Nat.mod_eq_of_lt (by omega)]
            rw [getElem!_pos z.cells j (by omega)]
            simp
          · rw [List.getElem?_append_right (by simp; omega), Array.length_toList, ih _ (by omega), hz3]
            congr 2
            rw [← Nat.mod_eq_sub_mod hge]
      rw [key n j hj]
    · rw [List.getElem?_eq_none (by simp; omega), List.getElem?_eq_none]
      simp [hz3]; omega
  have hcs := pureL_map hp
  have hlen := fillP_len h
  have hcl : cs.length = n * ye.size := by
    have : out.length = n * ye.size := by rw [hlen]; simp [hz]
    rw [hcs] at this; simpa using this
  -- the zero row, whichever way
  obtain ⟨z', hz', hz0, hz9⟩ : ∃ z' : Array Value, (n * ye.size = 0 ∨ z' = z.cells) ∧ (n * ei.size = 0 → z' = #[]) ∧ (¬ n * ei.size = 0 → z' = z.cells) := by
    by_cases h0 : n * ei.size = 0
    · exact ⟨#[], .inl (by rw [hei.size]; exact h0), fun _ => rfl, fun h => absurd h0 h⟩
    · exact ⟨z.cells, .inr rfl, fun h => absurd h h0, fun _ => rfl⟩
  rw [← hzero z' hz'] at hrep
  obtain ⟨uout, g1, g2⟩ := fill_run h (ul := ul.toList) (by simpa using hl) (fun j x u hj hu => hr j x u hj (by simpa using hu)) hrep
  have hbig : ¬ (n * ei.size > 2 ^ 24) := by rw [← hei.size]; omega
  have hul : cs.length = uout.size := by have := g2.1; rw [hcs] at this; simpa using this
  refine ⟨uout, ?_, by omega, hcl, fun j x hx => ?_⟩
  · unfold Instr.buildSlice
    simp only [Sem.run_bind, run_underlying hi.und, Result.andThen_ok, run_sizeOf hei.info]
    rw [if_neg hbig]
    by_cases h0 : n * ei.size = 0
    · rw [if_pos h0]
      rw [hz0 h0] at g1
      simp only [Sem.run_bind, Sem.run_pure, Result.andThen_ok]
      rw [← hei.size, g1]
      simp [newRow]
    · rw [if_neg h0]
      rw [hz9 h0] at g1
      simp only [Sem.run_bind, Sem.run_pure, Result.andThen_ok, run_zeroValue hei.info hz1]
      rw [← hei.size, g1]
      simp [newRow]
  · have hlt := (List.getElem?_eq_some_iff.1 hx).1
    refine ⟨uout[j], by simp [show j < uout.size by omega], ?_⟩
    have := g2.2 j (.c x) (uout[j]) (by rw [hcs]; simp [hx]) (by simp [show j < uout.size by omega])
    cases this with | c _ _ h => exact h

theorem op_buildSlice {T : TypeId → Option Ty} (hT : ∀ t y, T t = some y → tyOf P t = some y) (hH : RepH w A bl H) {t e : TypeId} {y ye : Ty} (ht : T t = some y) (hk : y.k = .slice e) (he : T e = some ye) {n : Nat} (hn : n * ye.size ≤ 65536) (hz : ye.zero.length = ye.size) {l : List (Nat × V)} {ul : Array (Nat × Value)} (hl : l.length = ul.size)
    (hr : ∀ (j : Nat) (x : Nat × V) (u : Nat × Value), l[j]? = some x → ul[j]? = some u → x.1 = u.1 ∧ RepV w A bl H x.2 u.2) {out : List V} {cs : List C}
    (h : fillP (fun i => some (i * ye.size, ye.size)) ((List.replicate n ye.zero).flatten.map .c) l = some out) (hp : pureL out = some cs) :
    ∃ r w', (Instr.buildSlice t n ul).run P w = .ok r w' ∧ ∃ A', RepV w' A' bl H (.c (.sl ye.size (some false) true (chunk ye.size n cs))) r ∧ RepH w' A' bl H ∧ Le w A bl H w' A' bl H ∧ Evo w A (Liv bl H) w' A' (Liv bl H) := by
  obtain ⟨uout, hrun, hus, hcl, hcs⟩ := op_buildSlice0 hT ht hk he hn hz hl hr h hp
  obtain ⟨hg1, hg2⟩ := grow hH (Grow.alloc w (.cells uout e)) (N := fun b => b = w.heap.size) (fun b hb => by simp; omega)
  obtain ⟨k1, k2, k3⟩ := chunk_spec n cs hcl
  refine ⟨_, _, hrun, _, ?_, hg1, hg2, (Grow.alloc w _).evo (fun b hb => .inl hb) (fun b hb => hb.elim .inl (fun h => .inr (.inr (by omega))))⟩
  have e0 : n = (chunk ye.size n cs).length := k1.symm
  have hvs : RepC (w.alloc (.cells uout e)) (fun b => A b ∨ b = w.heap.size) (.sl ye.size (some false) true (chunk ye.size n cs)) (.slice (some ⟨w.heap.size, 0, none⟩) (chunk ye.size n cs).length n) := by
    refine .sl _ _ _ _ _ _ (fun k j => uout.getD (k * ye.size + j) undef) (fun _ => rfl) (by simp) (fun _ => e0) (by omega) k2 ?_ ?_
    · intro k j c x hk hj
      obtain ⟨u, hu, _⟩ := hcs _ x (k3 k j c x hk hj)
      refine ⟨.inr rfl, ?_⟩
      rw [cell_of_heap (heap_alloc_new w _)]
      simp only [Nat.zero_add]
      have hlt := (Array.getElem?_eq_some_iff.1 hu).1
      simp [Array.getD, hlt]
    · intro k j c x hk hj
      obtain ⟨u, hu, hx⟩ := hcs _ x (k3 k j c x hk hj)
      obtain ⟨hlt, he⟩ := Array.getElem?_eq_some_iff.1 hu
      have : uout.getD (k * ye.size + j) undef = u := by simp [Array.getD, hlt, he]
      rw [this]
      exact hx.mono hg2.C hg2.A
  rw [← e0] at hvs
  exact .c _ _ hvs

/-- An own row that is laid with its elements. -/
theorem op_buildSliceOwn {T : TypeId → Option Ty} (hT : ∀ t y, T t = some y → tyOf P t = some y) (hH : RepH w A bl H) {t e : TypeId} {y ye : Ty} (ht : T t = some y) (hk : y.k = .slice e) (he : T e = some ye) {n : Nat} (hn : n * ye.size ≤ 65536) (hz : ye.zero.length = ye.size) {l : List (Nat × V)} {ul : Array (Nat × Value)} (hl : l.length = ul.size)
    (hr : ∀ (j : Nat) (x : Nat × V) (u : Nat × Value), l[j]? = some x → ul[j]? = some u → x.1 = u.1 ∧ RepV w A bl H x.2 u.2) {out : List V} {cs : List C}
    (h : fillP (fun i => some (i * ye.size, ye.size)) ((List.replicate n ye.zero).flatten.map .c) l = some out) (hp : pureL out = some cs) :
    ∃ r w', (Instr.buildSlice t n ul).run P w = .ok r w' ∧ ∃ bl', RepV w' A bl' (H ++ [.mem ye.size 0 (chunk ye.size n cs)]) (.buf H.length 0 0 n) r ∧ RepH w' A bl' (H ++ [.mem ye.size 0 (chunk ye.size n cs)]) ∧ Le w A bl H w' A bl' (H ++ [.mem ye.size 0 (chunk ye.size n cs)]) ∧ Evo w A (Liv bl H) w' A (Liv bl' (H ++ [.mem ye.size 0 (chunk ye.size n cs)])) := by
  obtain ⟨uout, hrun, hus, hcl, hcs⟩ := op_buildSlice0 hT ht hk he hn hz hl hr h hp
  obtain ⟨k1, k2, k3⟩ := chunk_spec n cs hcl
  have hnew := heap_alloc_new w (.cells uout e)
  obtain ⟨bl', b1, b2, b3, b4⟩ := push_mem hH (z := ye.size) (xs := chunk ye.size n cs) (Grow.alloc w _) (by simp) hnew k2 (by rw [k1, hus]; exact Nat.le_refl _) (fun k j c x hk hj => hcs _ x (k3 k j c x hk hj))
  refine ⟨_, _, hrun, bl', ?_, b2, b3, b4⟩
  refine .buf _ _ _ _ _ _ _ (by simp) (fun z e xs _ => Nat.zero_le _) fun z' xs' h' => ?_
  simp at h'
  obtain ⟨rfl, rfl⟩ := h'
  refine ⟨by omega, rfl, ⟨Nat.le_refl _, fun _ a0 h => ?_, fun h => by simp at h⟩, fun hc => ⟨w.heap.size, 0, uout.size, b1, by simp, ?_, by rw [hus]; simp⟩⟩
  · simp only [Option.some.injEq] at h; subst h; rfl
  · simp only [rowOf, hnew]

/-- An own row has got other contents, and with them another age; it lies where it lay, or anew. -/
theorem rep_move (hH : RepH w A bl H) {i0 z e : Nat} {xs xs' : List (List C)} (hi : H[i0]? = some (.mem z e xs)) {x : Option (Nat × Nat)}
    (hx : ∀ b d, x = some (b, d) → (∃ d0, bl i0 = some (b, d0)) ∨ (w.heap.size ≤ b ∧ b < w'.heap.size)) (hs : w.heap.size ≤ w'.heap.size) (hos : w'.os = w.os) (htp : w'.tape = w.tape) (hou : w'.output = w.output)
    (hk : ∀ b, b < w.heap.size → (∀ d, bl i0 ≠ some (b, d)) → w'.heap[b]? = w.heap[b]?)
    (ho : Le w A bl H w' A (upd bl i0 x) (H.set i0 (.mem z (e + 1) xs')) → RepO w' A (upd bl i0 x) (H.set i0 (.mem z (e + 1) xs')) i0 (.mem z (e + 1) xs')) :
    RepH w' A (upd bl i0 x) (H.set i0 (.mem z (e + 1) xs')) ∧ Le w A bl H w' A (upd bl i0 x) (H.set i0 (.mem z (e + 1) xs')) ∧ Evo w A (Liv bl H) w' A (Liv (upd bl i0 x) (H.set i0 (.mem z (e + 1) xs'))) := by
  have hilt : i0 < H.length := (List.getElem?_eq_some_iff.1 hi).1
  have hal : alive H i0 := ⟨_, hi, rfl⟩
  have far : ∀ {i b d}, i ≠ i0 → alive H i → bl i = some (b, d) → w'.heap[b]? = w.heap[b]? := fun {i b d} hne ha hb =>
    hk b (hH.lt i b d ha hb).1 fun d' hd => hH.inj i i0 b d d' hne ha hal hb hd
  have old : ∀ {i}, alive (H.set i0 (.mem z (e + 1) xs')) i → alive H i := by
    intro i ha
    rcases Nat.decEq i0 i with hne | rfl
    · obtain ⟨o2, h1, h2⟩ := ha
      rw [List.getElem?_set_ne hne] at h1
      exact ⟨o2, h1, h2⟩
    · exact hal
  have hle : Le w A bl H w' A (upd bl i0 x) (H.set i0 (.mem z (e + 1) xs')) := by
    refine ⟨fun b hb => hk b (hH.alt b hb) fun d hd => (hH.lt i0 b d hal hd).2 hb, fun b hb => hb, by simp, fun i z2 e2 xs2 hlt h => ?_, fun i cs' hlt h => ?_, fun i r s hlt h => ?_, rfl, fun i z2 e2 xs1 xs2 b d n h0 h2 hb hr => ?_⟩
    · rcases Nat.decEq i0 i with hne | rfl
      · rw [List.getElem?_set_ne hne] at h
        exact ⟨e2, xs2, h, Nat.le_refl _, fun _ => ⟨rfl, upd_other (Ne.symm hne)⟩⟩
      · rw [List.getElem?_set_self hilt] at h
        simp only [Option.some.injEq, O.mem.injEq] at h
        obtain ⟨rfl, rfl, rfl⟩ := h
        exact ⟨e, xs, hi, by omega, fun he => by omega⟩
    · rcases Nat.decEq i0 i with hne | rfl
      · rw [List.getElem?_set_ne hne] at h
        exact ⟨cs', h, upd_other (Ne.symm hne)⟩
      · rw [List.getElem?_set_self hilt] at h
        simp at h
    · rcases Nat.decEq i0 i with hne | rfl
      · rw [List.getElem?_set_ne hne] at h
        exact ⟨r, s, h, upd_other (Ne.symm hne)⟩
      · rw [List.getElem?_set_self hilt] at h
        simp at h
    · rcases Nat.decEq i0 i with hne | rfl
      · rw [rowOf_keep (far (Ne.symm hne) ⟨_, h0, rfl⟩ hb)]; exact hr
      · rw [hi] at h0
        rw [List.getElem?_set_self hilt] at h2
        simp only [Option.some.injEq, O.mem.injEq] at h0 h2
        omega
  have hard : Ard w w' A bl (upd bl i0 x) := ⟨rfl, fun b hb => Nat.lt_of_lt_of_le (hH.alt b hb) hs, fun c hc => (hH.xlt c hc).2, fun c hc => hk c (hH.xlt c hc).1 fun d hd => hH.xinj i0 c d hal hd hc, hs, hos, htp, hou⟩
  refine ⟨⟨fun i o2 h => ?_, fun i j b d d' hij ha ha' hb hb' => ?_, fun i b d ha hb => ?_, hard.alt, fun b hb => ⟨Nat.lt_of_lt_of_le (hH.xlt b hb).1 hs, (hH.xlt b hb).2⟩, fun i b d ha hb hX => ?_, hH.base.mono hle.A hle.C⟩, hle, ?_⟩
  · rcases Nat.decEq i0 i with hne | rfl
    · rw [List.getElem?_set_ne hne] at h
      cases hlv : o2.live with
      | false => cases o2 <;> simp [O.live] at hlv; trivial
      | true => exact (hH.obj i o2 h).mono hle hard (upd_other (Ne.symm hne)) (fun b d hb => far (Ne.symm hne) ⟨o2, h, hlv⟩ hb) (fun b d hb => (hH.lt i b d ⟨o2, h, hlv⟩ hb).2)
    · rw [List.getElem?_set_self hilt] at h
      simp only [Option.some.injEq] at h
      subst h; exact ho hle
  · have clash : ∀ {i j b d d'}, i ≠ j → i ≠ i0 → j = i0 → alive H i → bl i = some (b, d) → upd bl i0 x j = some (b, d') → False := by
      intro i j b d d' hij hne hj ha2 hb2 hb3
      rw [hj, upd_same] at hb3
      rcases hx b d' hb3 with ⟨d0, h0⟩ | ⟨h0, _⟩
      · exact hH.inj i i0 b d d0 hne ha2 hal hb2 h0
      · have := (hH.lt i b d ha2 hb2).1; omega
    rcases Nat.decEq i0 i with hne | rfl
    · rw [upd_other (Ne.symm hne)] at hb
      rcases Nat.decEq i0 j with hne' | rfl
      · rw [upd_other (Ne.symm hne')] at hb'
        exact hH.inj i j b d d' hij (old ha) (old ha') hb hb'
      · exact clash hij (Ne.symm hne) rfl (old ha) hb hb'
    · have hne' : j ≠ i0 := fun h => hij h.symm
      rw [upd_other hne'] at hb'
      exact clash hne' hne' rfl (old ha') hb' hb
  · rcases Nat.decEq i0 i with hne | rfl
    · rw [upd_other (Ne.symm hne)] at hb
      have := hH.lt i b d (old ha) hb
      exact ⟨Nat.lt_of_lt_of_le this.1 hs, this.2⟩
    · rw [upd_same] at hb
      rcases hx b d hb with ⟨d0, h0⟩ | ⟨h0, h1⟩
      · have := hH.lt i0 b d0 hal h0
        exact ⟨Nat.lt_of_lt_of_le this.1 hs, this.2⟩
      · exact ⟨h1, fun hA => by have := hH.alt b hA; omega⟩
  · have hX : bl.X b := hX
    rcases Nat.decEq i0 i with hne | rfl
    · rw [upd_other (Ne.symm hne)] at hb
      exact hH.xinj i b d (old ha) hb hX
    · rw [upd_same] at hb
      rcases hx b d hb with ⟨d0, h0⟩ | ⟨h0, h1⟩
      · exact hH.xinj i0 b d0 hal h0 hX
      · have := (hH.xlt b hX).1; omega
  · refine ⟨hos, htp, hou, hs, fun b hb hn => hk b hb fun d hd => hn (.inl ⟨i0, d, hal, hd⟩), fun b hb => ?_, fun b hb => .inl hb⟩
    rcases hb with ⟨i, d, ha, hb⟩ | hb
    · rcases Nat.decEq i0 i with hne | rfl
      · rw [upd_other (Ne.symm hne)] at hb
        exact .inl (.inl ⟨i, d, old ha, hb⟩)
      · rw [upd_same] at hb
        rcases hx b d hb with ⟨d0, h0⟩ | ⟨h0, h1⟩
        · exact .inl (.inl ⟨i0, d0, hal, h0⟩)
        · exact .inr h0
    · exact .inl (.inr hb)

theorem setCells_spec {g : Nat} {t : TypeId} : ∀ (vs : List Value) (o : Nat) (w : World) (cur : Array Value), w.heap[g]? = some (.cells cur t (0, 0)) → o + vs.length ≤ cur.size →
    (w.setCells g o vs).heap[g]? = some (.cells (splice cur.toList o vs).toArray t (0, 0)) ∧ (∀ b, b ≠ g → (w.setCells g o vs).heap[b]? = w.heap[b]?) ∧ (w.setCells g o vs).os = w.os ∧ (w.setCells g o vs).tape = w.tape ∧ (w.setCells g o vs).output = w.output ∧ (w.setCells g o vs).heap.size = w.heap.size
  | [], o, w, cur, hw, h => ⟨by simpa [World.setCells, splice] using hw, fun _ _ => rfl, rfl, rfl, rfl, rfl⟩
  | v :: vs, o, w, cur, hw, h => by
    simp only [List.length_cons] at h
    have e := setCell_eq_setRow w g o cur t (0, 0) v hw
    have hw1 := setRow_heap w g cur (cur.setIfInBounds o v) t (0, 0) hw
    obtain ⟨h1, h2, h3, h4, h5, h6⟩ := setCells_spec vs (o + 1) (w.setRow g (cur.setIfInBounds o v)) (cur.setIfInBounds o v) hw1 (by simp; omega)
    simp only [World.setCells, e]
    refine ⟨?_, fun b hb => (h2 b hb).trans (Go.setRow_other w g b _ hb), h3, h4, h5, by rw [h6]; simp⟩
    rw [h1]
    congr 3
    apply List.ext_getElem?
    intro j
    simp only [Array.toList_setIfInBounds]
    have hlt : o < cur.toList.length := by simp; omega
    rw [splice_get (by simp; omega), splice_get (by simp; omega)]
    simp only [List.length_cons]
    by_cases hj : j = o
    · subst hj
      rw [if_neg (by omega), if_pos (by omega), List.getElem?_set_self hlt]; simp
    · rw [List.getElem?_set_ne (Ne.symm hj)]
      by_cases h2 : o + 1 ≤ j ∧ j < o + 1 + vs.length
      · rw [if_pos h2, if_pos (by omega)]
        have : j - o = (j - (o + 1)) + 1 := by omega
        rw [this]; simp
      · rw [if_neg h2, if_neg (by omega)]

/-- What is appended, as the machine's cells. -/
structure SrcIs (P : Program) (w : World) (A : Nat → Prop) (sz : Nat) (tx : TypeId) (x : Value) (ys : List (List C)) (news : List Value) : Prop where
  src : Src P sz tx x ys.length news w
  len : ∀ cs ∈ ys, cs.length = sz
  rep : ∀ (k j : Nat) (cs : List C) (c : C), ys[k]? = some cs → cs[j]? = some c → ∃ u, news[k * sz + j]? = some u ∧ RepC w A c u

theorem repC_one {c : C} {u : Value} (h : RepC w A c u) : u.oneCell' = true := by cases h <;> rfl

/-- Elements that lie in line, cell by cell. -/
theorem row_cells {ys : List (List C)} {sz : Nat} (hl : ∀ cs ∈ ys, cs.length = sz) {f : Nat → Option Value} (h : ∀ (k j : Nat) (cs : List C) (c : C), ys[k]? = some cs → cs[j]? = some c → ∃ u, f (k * sz + j) = some u ∧ RepC w A c u) :
    ∃ news : List Value, news.length = ys.length * sz ∧ (∀ (j : Nat) (u : Value), news[j]? = some u → f j = some u) ∧ (∀ u ∈ news, u.oneCell' = true) ∧ ∀ (k j : Nat) (cs : List C) (c : C), ys[k]? = some cs → cs[j]? = some c → ∃ u, news[k * sz + j]? = some u ∧ RepC w A c u := by
  obtain ⟨news, h1, h2⟩ := list_of (n := ys.length * sz) (Q := fun j u => f j = some u ∧ ∃ c, RepC w A c u) (fun j hj => by
    have hs : 0 < sz := by rcases Nat.eq_zero_or_pos sz with h0 | h0; (rw [h0] at hj; omega); exact h0
    have hk : j / sz < ys.length := Nat.div_lt_of_lt_mul (by rw [Nat.mul_comm]; exact hj)
    have hm : j % sz < sz := Nat.mod_lt _ hs
    have hcl := hl ys[j / sz] (List.getElem_mem hk)
    obtain ⟨u, q1, q2⟩ := h (j / sz) (j % sz) ys[j / sz] (ys[j / sz])[j % sz] (by simp [hk]) (by simp [hcl, hm])
    have e : j / sz * sz + j % sz = j := by rw [Nat.mul_comm]; exact Nat.div_add_mod j sz
    exact ⟨u, by rw [← e]; exact q1, _, q2⟩)
  refine ⟨news, h1, fun j u hj => (h2 j u hj).1, fun u hu => ?_, fun k j cs c hk hj => ?_⟩
  · obtain ⟨j, hj, rfl⟩ := List.mem_iff_getElem.1 hu
    obtain ⟨_, c, hc⟩ := h2 j news[j] (by simp [hj])
    exact repC_one hc
  · obtain ⟨u, q1, q2⟩ := h k j cs c hk hj
    have hk' := (List.getElem?_eq_some_iff.1 hk).1
    have hj' : j < sz := hl cs (List.mem_of_getElem? hk) ▸ (List.getElem?_eq_some_iff.1 hj).1
    have : (k + 1) * sz ≤ ys.length * sz := Nat.mul_le_mul_right _ hk'
    rw [Nat.add_mul] at this
    have hlt : k * sz + j < news.length := by omega
    refine ⟨news[k * sz + j], by simp [hlt], ?_⟩
    have := (h2 (k * sz + j) news[k * sz + j] (by simp [hlt])).1
    rw [q1] at this
    simp only [Option.some.injEq] at this
    rw [← this]; exact q2

theorem srcIs_of {tx : TypeId} {sz : Nat} (hk : (∃ e', P.underlying tx = some (.slice e')) ∨ P.underlying tx = some .string) {b : Option Addr} {cap : Nat} {ys : List (List C)} (hl : ∀ cs ∈ ys, cs.length = sz) (hb : ys.length * sz ≠ 0 → ∃ a, b = some a ∧ a.spot = none ∧
      ∀ (k j : Nat) (cs : List C) (c : C), ys[k]? = some cs → cs[j]? = some c → ∃ u, w.cell? ⟨a.block, a.off + (k * sz + j), none⟩ = some u ∧ RepC w A c u) (hz : b = none → ys.length = 0) :
    ∃ news, SrcIs P w A sz tx (.slice b ys.length cap) ys news := by
  by_cases h0 : ys.length * sz = 0
  · have hno : ∀ (k j : Nat) (cs : List C) (c : C), ys[k]? = some cs → cs[j]? = some c → False := by
      intro k j cs c hk hj
      have hk' := (List.getElem?_eq_some_iff.1 hk).1
      have hj' : j < sz := hl cs (List.mem_of_getElem? hk) ▸ (List.getElem?_eq_some_iff.1 hj).1
      rcases Nat.mul_eq_zero.1 h0 with h | h <;> omega
    refine ⟨[], ⟨⟨hk, fun _ => rfl, ?_, ?_, by simp [h0], fun u hu => by cases hu⟩, hl, fun k j cs c hk hj => (hno k j cs c hk hj).elim⟩⟩
    all_goals cases b with
      | none => simp [Builtin.firstCells]
      | some a => simp [Builtin.firstCells, h0, loadCells, loadCellsFrom]
  · obtain ⟨a, rfl, ha, hc⟩ := hb h0
    obtain ⟨news, n1, n2, n3, n4⟩ := row_cells (w := w) (A := A) hl (f := fun j => w.cell? ⟨a.block, a.off + j, none⟩) hc
    have hcell : ∀ (j : Nat) (u : Value), news[j]? = some u → w.cell? (a.add j) = some u := fun j u hj => by rw [add_spot ha]; exact n2 j u hj
    exact ⟨news, ⟨⟨hk, fun _ => rfl, run_firstCells_some w sz ys.length a ys.length cap news n1 hcell, run_firstCells_some w.drew sz ys.length a ys.length cap news n1 (by simpa using hcell), n1, n3⟩, hl, n4⟩⟩

theorem srcOf_is (hH : RepH w A bl H) {tx : TypeId} {sz : Nat} (hk : (∃ e', P.underlying tx = some (.slice e')) ∨ P.underlying tx = some .string) {s : V} {ys : List (List C)} (h : srcOf H sz s = some ys) {x : Value} (hx : RepV w A bl H s x) :
    ∃ news, SrcIs P w A sz tx x ys news := by
  unfold srcOf at h
  split at h
  · rename_i z nl ti xs
    have hys : (z = sz ∧ ys = xs) ∨ (xs = [] ∧ ys = []) := by
      split at h
      · simp only [Option.some.injEq] at h; exact .inl ⟨‹_›, h.symm⟩
      · split at h <;> simp at h
        exact .inr ⟨rfl, h⟩
    rcases hx.sl_inv with ⟨rfl, rfl, hnl⟩ | ⟨a, cap, vs, rfl, g1, g2, g3, g4, g5, g6, g7⟩
    · have : ys = [] := by rcases hys with ⟨_, h⟩ | ⟨_, h⟩ <;> exact h
      subst this
      exact srcIs_of (ys := []) (b := none) (cap := 0) hk (by simp) (by simp) (fun _ => rfl)
    · rcases hys with ⟨rfl, rfl⟩ | ⟨rfl, rfl⟩
      · refine srcIs_of hk g5 (fun h0 => ⟨a, rfl, g1 (fun hc0 => h0 (by rw [show ys.length = 0 by omega]; simp)), fun k j cs c hk hj => ?_⟩) (by simp)
        exact ⟨_, by rw [← Nat.add_assoc]; exact (g6 k j cs c hk hj).2, g7 k j cs c hk hj⟩
      · exact srcIs_of (ys := []) (b := some a) (cap := cap) hk (by simp) (by simp) (by simp)
  · rename_i s
    split at h <;> simp only [Option.some.injEq, reduceCtorEq] at h
    rename_i h1
    subst h1
    obtain rfl := hx.str_inv
    subst h
    have hsz : (ByteArray.mk s.toArray).size = s.length := by simp [ByteArray.size]
    have hs : Src P 1 tx (.string ⟨s.toArray⟩) s.length (byteCells ⟨s.toArray⟩) w := by
      have hf := fun w' => firstCells_string (P := P) ⟨s.toArray⟩ w'
      rw [hsz] at hf
      exact ⟨hk, fun _ => by simp [Builtin.lenOf, hsz], hf w, hf w.drew, by rw [byteCells_length, hsz, Nat.mul_one], fun u hu => by
        obtain ⟨_, _, rfl⟩ := List.mem_map.1 hu
        rfl⟩
    refine ⟨byteCells ⟨s.toArray⟩, ⟨by simpa using hs, by simp, fun k j cs c hk hj => ?_⟩⟩
    simp only [List.getElem?_map, Option.map_eq_some_iff] at hk
    obtain ⟨b, hb, rfl⟩ := hk
    cases j with
    | succ j => simp at hj
    | zero =>
      simp at hj
      subst hj
      exact ⟨.int .u8 b.toNat, by simp [byteCells, hb], .int _ _⟩
  · rename_i i ep off len
    split at h
    case h_2 => simp at h
    rename_i z e xs hmem
    split at h <;> simp only [Option.some.injEq, reduceCtorEq] at h
    rename_i hc
    obtain ⟨rfl, rfl⟩ := hc
    subst h
    obtain ⟨b, l, cap, rfl, g1, g2, g3⟩ := hx.buf_inv
    obtain ⟨k1, hl0, ⟨k3, k5, k6⟩, k4⟩ := g3 z xs hmem
    subst hl0
    obtain ⟨q1, q2, q3⟩ := hH.obj _ _ hmem
    have hlen : ((xs.drop off).take l).length = l := by simp; omega
    have at_ : ∀ (k : Nat) (cs : List C), ((xs.drop off).take l)[k]? = some cs → xs[off + k]? = some cs := by
      intro k cs hk
      rw [List.getElem?_take, List.getElem?_drop] at hk
      split at hk <;> simp_all
    have := srcIs_of (P := P) (w := w) (A := A) (tx := tx) (sz := z) hk (b := b) (cap := cap) (ys := (xs.drop off).take l) (fun cs hcs => q1 cs (List.mem_of_mem_drop (List.mem_of_mem_take hcs))) (fun h0 => by
      have hc : cap ≠ 0 := by
        intro hc
        have : l = 0 := by omega
        rw [hlen] at h0; simp [this] at h0
      obtain ⟨b', d, n, p1, rfl, p3, p4⟩ := k4 hc
      obtain ⟨arr, t, r1, r2, r3⟩ := q3 b' d p1
      refine ⟨_, rfl, rfl, fun k j cs c hk' hj => ?_⟩
      obtain ⟨u, u1, u2⟩ := r3 (off + k) j cs c (at_ k cs hk') hj
      refine ⟨u, ?_, u2⟩
      rw [cell_of_heap r1, ← u1]
      congr 1
      show d + off * z + (k * z + j) = _
      rw [Nat.add_mul]; omega) (fun hn => by
      rw [hlen]
      rcases Nat.eq_zero_or_pos cap with h0 | h0
      · omega
      · obtain ⟨b', d, n, p1, p2, _⟩ := k4 (by omega)
        rw [hn] at p2; simp at p2)
    rw [hlen] at this
    exact this
  · simp at h

theorem alloc_drew (w : World) (o : Obj) : Grow w (w.drew.alloc o) := (Grow.drew w).trans (Grow.alloc _ _)

theorem grown_fit {need cap bytes : Nat} (h : cap < need) (hn : need < 4294967296) (hb : bytes ≤ 4096) : Builtin.nextslicecap need cap * bytes ≤ 281474976710656 := by
  have := nextslicecap_le h
  exact Nat.le_trans (Nat.mul_le_mul this hb : Builtin.nextslicecap need cap * bytes ≤ (2 * need) * 4096) (by omega)

/-- append. -/
theorem appendV_run {T : TypeId → Option Ty} (hT : ∀ t y, T t = some y → tyOf P t = some y) (hH : RepH w A bl H) {t e tx ty : TypeId} {y ye : Ty} (ht : T t = some y) (hk : y.k = .slice e) (he : T e = some ye) (hby : ye.bytes ≤ 4096) (hzl : ye.zero.length = ye.size) (htx : (∃ e', P.underlying tx = some (.slice e')) ∨ P.underlying tx = some .string)
    {dst src v : V} {H' : Hp} {k : Nat} (h : appendV ye.size H dst src = some (v, H', k)) {ud us : Value} (hd : RepV w A bl H dst ud) (hs : RepV w A bl H src us) :
    ∃ r w', (Builtin.append_ #[t, tx] ty #[ud, us]).run P w = .ok r w' ∧ ∃ bl', RepV w' A bl' H' v r ∧ RepH w' A bl' H' ∧ Le w A bl H w' A bl' H' ∧ Evo w A (Liv bl H) w' A (Liv bl' H') := by
  obtain ⟨i, d, hi⟩ := get_wf hT ht
  have hdd : d = .slice e := kOf_slice (hk.symm.trans hi.k)
  subst hdd
  obtain ⟨ei, ed, hei⟩ := get_wf hT he
  obtain ⟨z, hz, _, hzs⟩ := zero_of (w := w) (A := A) (bl := bl) (H := H) hei hzl
  unfold appendV at h
  split at h
  case h_1 => simp at h
  rename_i ys hys
  obtain ⟨news, hsrc⟩ := srcOf_is hH htx hys hs
  have hsrc' : Src P ei.size tx us ys.length news w := by rw [← hei.size]; exact hsrc.src
  split at h
  · -- onto what has no room
    rename_i z0 nl xs
    split at h <;> simp only [Option.some.injEq, reduceCtorEq, Prod.mk.injEq] at h
    rename_i hc
    obtain ⟨c1, c2, c3⟩ := hc
    obtain ⟨rfl, rfl, rfl⟩ := h
    obtain ⟨base, hud, hspot, hbn, hold, hxl⟩ : ∃ base : Option Addr, ud = .slice base xs.length xs.length ∧ (xs.length ≠ 0 → ∀ a0, base = some a0 → a0.spot = none) ∧ (base = none → xs.length = 0) ∧ (∃ olds : List Value, (Builtin.firstCells ei.size xs.length (.slice base xs.length xs.length)).run P w.drew = .ok olds.toArray w.drew ∧ olds.length = xs.length * ye.size ∧
        ∀ (k j : Nat) (cs : List C) (c : C), xs[k]? = some cs → cs[j]? = some c → ∃ u, olds[k * ye.size + j]? = some u ∧ RepC w A c u) ∧ ∀ cs ∈ xs, cs.length = ye.size := by
      rcases hd.sl_inv with ⟨rfl, rfl, hnl⟩ | ⟨a, cap, vs, rfl, g1, g2, g3, g4, g5, g6, g7⟩
      · exact ⟨none, rfl, fun _ _ h => by simp at h, fun _ => rfl, ⟨[], by simp [Builtin.firstCells], by simp, by simp⟩, by simp⟩
      · have hcap := g3 rfl
        refine ⟨some a, by rw [hcap], fun h0 a0 h => (by simp only [Option.some.injEq] at h; subst h; exact g1 (by omega)), fun h => (by simp at h), ?_, fun cs hcs => ?_⟩
        · rcases c1 with rfl | rfl
          · obtain ⟨olds, n1, n2, n3, n4⟩ := row_cells (w := w) (A := A) g5 (f := fun j => w.cell? ⟨a.block, a.off + j, none⟩) (fun k j cs c hk hj => ⟨_, by rw [← Nat.add_assoc]; exact (g6 k j cs c hk hj).2, g7 k j cs c hk hj⟩)
            refine ⟨olds, ?_, n1, n4⟩
            exact run_firstCells_some w.drew ei.size xs.length a xs.length xs.length olds (by rw [n1, hei.size]) (fun j u hj => by
              have hlt := (List.getElem?_eq_some_iff.1 hj).1
              rw [n1] at hlt
              rw [add_spot (g1 (fun hc0 => by rw [show xs.length = 0 by omega] at hlt; omega))]; simpa using n2 j u hj)
          · exact ⟨[], by simp [Builtin.firstCells, loadCells, loadCellsFrom], by simp, by simp⟩
        · rcases c1 with rfl | rfl
          · exact g5 cs hcs
          · simp at hcs
    subst hud
    obtain ⟨olds, o1, o2, o3⟩ := hold
    by_cases hn : ys.length = 0
    · -- nothing onto nothing
      have hy0 : ys = [] := List.eq_nil_of_length_eq_zero hn
      have hx0 : xs = [] := by rcases c2 with h | h; exact h; exact absurd hy0 h
      subst hy0; subst hx0
      have hnews : news = [] := by have := hsrc'.newsLen; simp at this; exact this
      subst hnews
      have hrun := run_append_nothing (P := P) w t tx ty e ei hi.und hei.info base 0 0 (Nat.le_refl _) us hsrc'
      obtain ⟨bl', b1, b2, b3, b4⟩ := push_none hH ye.size
      refine ⟨_, _, hrun, bl', ?_, b2, b3, b4⟩
      refine .buf _ _ _ _ _ _ _ (by simp) (fun z e xs _ => Nat.zero_le _) fun z' xs' h' => ?_
      simp at h'
      obtain ⟨_, rfl⟩ := h'
      exact ⟨by simp, rfl, ⟨Nat.le_refl _, fun h => absurd rfl h, fun _ => rfl⟩, fun h => absurd rfl h⟩
    · have hgrow : xs.length < xs.length + ys.length := by omega
      have hrun := run_append_grow_src (P := P) w t tx ty e ei z hi.und hei.info hz base xs.length xs.length olds o1 us ys.length news hsrc' hgrow (by omega) (grown_fit hgrow c3 (by rw [← hei.bytes]; exact hby))
      have hg : xs.length + ys.length ≤ grownCap w (xs.length + ys.length) xs.length e := grownCap_ge w _ _ e
      generalize hcap : grownCap w (xs.length + ys.length) xs.length e = cap at hrun hg
      have hnl : news.length = ys.length * ye.size := by rw [hsrc'.newsLen, hei.size]
      have hsizes : ((olds ++ news).toArray ++ Builtin.zeroCells z.cells (cap - (xs.length + ys.length))).size = xs.length * ye.size + ys.length * ye.size + (cap - (xs.length + ys.length)) * z.cells.size := by
        simp [size_zeroCells, o2, hnl]
      have hnew : (w.drew.alloc (.cells ((olds ++ news).toArray ++ Builtin.zeroCells z.cells (cap - (xs.length + ys.length))) e)).heap[w.heap.size]? = some (.cells ((olds ++ news).toArray ++ Builtin.zeroCells z.cells (cap - (xs.length + ys.length))) e) := heap_alloc_new w.drew _
      have hbig : (xs.length + ys.length) * ye.size = xs.length * ye.size + ys.length * ye.size := Nat.add_mul _ _ _
      have hcapm : cap * ye.size = (xs.length + ys.length) * ye.size + (cap - (xs.length + ys.length)) * ye.size := by rw [← Nat.add_mul]; congr 1; omega
      have hcells : ∀ (k j : Nat) (cs : List C) (c : C), (xs ++ ys)[k]? = some cs → cs[j]? = some c → ∃ u, ((olds ++ news).toArray ++ Builtin.zeroCells z.cells (cap - (xs.length + ys.length)))[k * ye.size + j]? = some u ∧ RepC w A c u := by
        intro k j cs c hk hj
        rcases Nat.lt_or_ge k xs.length with hlt | hge
        · rw [List.getElem?_append_left hlt] at hk
          obtain ⟨u, u1, u2⟩ := o3 k j cs c hk hj
          have hb := (List.getElem?_eq_some_iff.1 u1).1
          refine ⟨u, ?_, u2⟩
          rw [Array.getElem?_append_left (by simp; omega)]
          simp only [List.getElem?_toArray]
          rw [List.getElem?_append_left hb]; exact u1
        · rw [List.getElem?_append_right hge] at hk
          obtain ⟨u, u1, u2⟩ := hsrc.rep _ j cs c hk hj
          have hb := (List.getElem?_eq_some_iff.1 u1).1
          have e1 : k * ye.size = xs.length * ye.size + (k - xs.length) * ye.size := by rw [← Nat.add_mul]; congr 1; omega
          refine ⟨u, ?_, u2⟩
          rw [Array.getElem?_append_left (by simp; omega)]
          simp only [List.getElem?_toArray]
          rw [List.getElem?_append_right (by omega), ← u1]
          congr 1; omega
      obtain ⟨bl', b0, b1, b2, b3⟩ := push_mem hH (xs := xs ++ ys) (z := ye.size) (alloc_drew w _) (by simp) hnew (fun cs hcs => (List.mem_append.1 hcs).elim (hxl cs) (hsrc.len cs)) (by rw [hsizes, hzs]; simp; omega) hcells
      refine ⟨_, _, hrun, bl', ?_, b1, b2, b3⟩
      refine .buf _ _ _ _ _ _ _ (by simp) (fun z e xs _ => Nat.zero_le _) fun z' xs' h' => ?_
      simp at h'
      obtain ⟨rfl, rfl⟩ := h'
      refine ⟨by simp, rfl, ⟨hg, fun _ a0 h => (by simp only [Option.some.injEq] at h; subst h; rfl), fun h => (by simp at h)⟩, fun _ => ⟨w.heap.size, 0, ((olds ++ news).toArray ++ Builtin.zeroCells z.cells (cap - (xs.length + ys.length))).size, b0, by simp, ?_, ?_⟩⟩
      · (simp only [rowOf]; rw [hnew]; rfl)
      · rw [hsizes, hzs]; simp only [Nat.zero_add]; omega
  · -- onto an own row
    rename_i i0 ep off len
    split at h
    case h_2 => simp at h
    rename_i z0 e0 xs hmem
    split at h <;> simp only [Option.some.injEq, reduceCtorEq, Prod.mk.injEq] at h
    rename_i hc
    obtain ⟨rfl, rfl, c3⟩ := hc
    obtain ⟨rfl, rfl, rfl⟩ := h
    obtain ⟨base, l0, cap, rfl, g1, g2, g3⟩ := hd.buf_inv
    obtain ⟨k1, hl0, ⟨k3, k5, k6⟩, k4⟩ := g3 ye.size xs hmem
    subst hl0
    obtain ⟨q1, q2, q3⟩ := hH.obj _ _ hmem
    have hlen : ((xs.drop off).take l0).length = l0 := by simp; omega
    have at_ : ∀ (k : Nat) (cs : List C), ((xs.drop off).take l0)[k]? = some cs → xs[off + k]? = some cs := by
      intro k cs hk
      rw [List.getElem?_take, List.getElem?_drop] at hk
      split at hk <;> simp_all
    have hlens : ∀ cs ∈ (xs.drop off).take l0 ++ ys, cs.length = ye.size := fun cs hcs => (List.mem_append.1 hcs).elim (fun h => q1 cs (List.mem_of_mem_drop (List.mem_of_mem_take h))) (hsrc.len cs)
    have hbufs : ∀ {w2 : World} {bl2 : Bl} {base2 : Option Addr} {cap2 : Nat}, l0 + ys.length ≤ cap2 → ((cap2 ≠ 0 → ∀ a0, base2 = some a0 → a0.spot = none) ∧ (base2 = none → cap2 = 0)) → (cap2 ≠ 0 → ∃ b d n, bl2 i0 = some (b, d) ∧ base2 = some ⟨b, d, none⟩ ∧ rowOf w2 b = some n ∧ d + cap2 * ye.size ≤ n) →
        RepV w2 A bl2 (H.set i0 (.mem ye.size (e0 + 1) ((xs.drop off).take l0 ++ ys))) (.buf i0 (e0 + 1) 0 (l0 + ys.length)) (.slice base2 (l0 + ys.length) cap2) := by
      intro w2 bl2 base2 cap2 hc2 hc3 hb2
      refine .buf _ _ _ _ _ _ _ (by simpa using g1) (fun z e xs' h' => ?_) fun z' xs' h' => ?_
      · rw [List.getElem?_set_self g1] at h'
        simp only [Option.some.injEq, O.mem.injEq] at h'
        omega
      · rw [List.getElem?_set_self g1] at h'
        simp only [Option.some.injEq, O.mem.injEq, true_and] at h'
        obtain ⟨rfl, rfl⟩ := h'
        refine ⟨by simp; omega, rfl, ⟨hc2, hc3.1, hc3.2⟩, fun h => ?_⟩
        obtain ⟨b, d, n, p1, p2, p3, p4⟩ := hb2 h
        exact ⟨b, d, n, p1, by simpa using p2, p3, by simpa using p4⟩
    by_cases hroom : l0 + ys.length ≤ cap
    · by_cases hcap : cap = 0
      · -- nothing onto nothing
        have hn : ys.length = 0 := by omega
        have hl00 : l0 = 0 := by omega
        have hy0 : ys = [] := List.eq_nil_of_length_eq_zero hn
        subst hy0
        have hnews : news = [] := by have := hsrc'.newsLen; simp at this; exact this
        subst hnews
        have hrun := run_append_nothing (P := P) w t tx ty e ei hi.und hei.info base l0 cap k3 us hsrc'
        obtain ⟨b1, b2, b3⟩ := rep_move (w' := w) (xs' := (xs.drop off).take l0 ++ []) hH hmem (x := bl i0) (fun b d hb => .inl ⟨d, hb⟩) (Nat.le_refl _) rfl rfl rfl (fun _ _ _ => rfl) (fun hle => by
          refine ⟨hlens, fun _ => by simp [hl00], fun b d hb => ?_⟩
          rw [upd_same] at hb
          obtain ⟨arr, t', r1, r2, _⟩ := q3 b d hb
          refine ⟨arr, t', r1, ?_, fun k j cs c hk hj => ?_⟩
          · simp [hl00]; omega
          · simp [hl00] at hk)
        refine ⟨_, _, hrun, _, ?_, b1, b2, b3⟩
        have := hbufs (w2 := w) (bl2 := upd bl i0 (bl i0)) (base2 := base) (cap2 := cap) (by simpa using k3) ⟨k5, k6⟩ (fun h => absurd hcap h)
        simpa using this
      · -- there is room
        obtain ⟨b, d, n, p1, rfl, p3, p4⟩ := k4 hcap
        obtain ⟨arr, t', r1, r2, r3⟩ := q3 b d p1
        have hn : n = arr.size := by simp only [rowOf, r1] at p3; simpa using p3.symm
        subst hn
        have hnl : news.length = ys.length * ye.size := by rw [hsrc'.newsLen, hei.size]
        have hm1 : (off + cap) * ye.size = off * ye.size + cap * ye.size := Nat.add_mul _ _ _
        have hm2 : (l0 + ys.length) * ye.size = l0 * ye.size + ys.length * ye.size := Nat.add_mul _ _ _
        have hm3 : (l0 + ys.length) * ye.size ≤ cap * ye.size := Nat.mul_le_mul_right _ hroom
        have hfit : d + off * ye.size + l0 * ye.size + news.length ≤ arr.size := by omega
        have hcl : ∀ j, j < news.length → w.cell? ⟨b, d + off * ye.size + l0 * ye.size + j, none⟩ = some arr[d + off * ye.size + l0 * ye.size + j]! := by
          intro j hj
          rw [cell_of_heap r1, getElem!_pos arr _ (by omega)]
          exact Array.getElem?_eq_getElem (by omega)
        have hrun := run_append_room_src (P := P) w t tx ty e ei hi.und hei.info b (d + off * ye.size) l0 cap us ys.length news hsrc' hroom
          (fun j hj => by rw [← hei.size, hcl j hj]; rfl) (fun j hj => by simp [World.frozen?, r1])
        rw [← hei.size] at hrun
        obtain ⟨s1, s2, s3, s4, s5, s6⟩ := setCells_spec news (d + off * ye.size + l0 * ye.size) w arr r1 (by omega)
        obtain ⟨b1, b2, b3⟩ := rep_move (w' := w.setCells b (d + off * ye.size + l0 * ye.size) news) (xs' := (xs.drop off).take l0 ++ ys) hH hmem (x := some (b, d + off * ye.size)) (fun b' d' hb => by
            simp only [Option.some.injEq, Prod.mk.injEq] at hb; exact .inl ⟨d, by rw [← hb.1]; exact p1⟩) (by omega) s3 s4 s5 (fun b' hb hn => s2 b' fun e => hn d (e ▸ p1)) (fun hle => by
          refine ⟨hlens, fun hn => by rw [upd_same] at hn; simp at hn, fun b' d' hb => ?_⟩
          rw [upd_same] at hb
          simp only [Option.some.injEq, Prod.mk.injEq] at hb
          obtain ⟨rfl, rfl⟩ := hb
          refine ⟨_, t', s1, ?_, fun k j cs c hk hj => ?_⟩
          · simp only [List.size_toArray]; rw [splice_len (by simp; omega)]; simp only [List.length_append, hlen, Array.length_toList]; omega
          · simp only [List.getElem?_toArray]
            rw [splice_get (by simp; omega)]
            have hjz : j < ye.size := hlens cs (List.mem_of_getElem? hk) ▸ (List.getElem?_eq_some_iff.1 hj).1
            rcases Nat.lt_or_ge k l0 with hlt | hge
            · rw [List.getElem?_append_left (by omega)] at hk
              have : (k + 1) * ye.size ≤ l0 * ye.size := Nat.mul_le_mul_right _ hlt
              rw [Nat.add_mul] at this
              rw [if_neg (by omega)]
              obtain ⟨u, u1, u2⟩ := r3 (off + k) j cs c (at_ k cs hk) hj
              refine ⟨u, ?_, u2.mono hle.C hle.A⟩
              simp only [Array.getElem?_toList]
              rw [← u1]; congr 1
              rw [Nat.add_mul]; omega
            · rw [List.getElem?_append_right (by omega), hlen] at hk
              obtain ⟨u, u1, u2⟩ := hsrc.rep _ j cs c hk hj
              have hb := (List.getElem?_eq_some_iff.1 u1).1
              have e1 : k * ye.size = l0 * ye.size + (k - l0) * ye.size := by rw [← Nat.add_mul]; congr 1; omega
              rw [if_pos (by omega)]
              refine ⟨u, ?_, u2.mono hle.C hle.A⟩
              rw [← u1]; congr 1; omega)
        refine ⟨_, _, hrun, _, hbufs hroom ⟨k5, k6⟩ (fun _ => ⟨b, d + off * ye.size, arr.size, upd_same, rfl, ?_, by omega⟩), b1, b2, b3⟩
        simp only [rowOf, s1]
        simp only [Option.some.injEq, List.size_toArray]
        rw [splice_len (by simp; omega)]; simp
    · -- there is none: a new row
      have hgrow : cap < l0 + ys.length := by omega
      obtain ⟨olds, o1, o2, o3⟩ : ∃ olds : List Value, (Builtin.firstCells ei.size l0 (.slice base l0 cap)).run P w.drew = .ok olds.toArray w.drew ∧ olds.length = l0 * ye.size ∧
          ∀ (k j : Nat) (cs : List C) (c : C), ((xs.drop off).take l0)[k]? = some cs → cs[j]? = some c → ∃ u, olds[k * ye.size + j]? = some u ∧ RepC w A c u := by
        by_cases hc0 : cap = 0
        · have hl00 : l0 = 0 := by omega
          subst hl00
          refine ⟨[], ?_, by simp, by simp⟩
          cases base <;> simp [Builtin.firstCells, loadCells, loadCellsFrom]
        · obtain ⟨b, d, n, p1, rfl, p3, p4⟩ := k4 hc0
          obtain ⟨arr, t', r1, r2, r3⟩ := q3 b d p1
          obtain ⟨olds, n1, n2, n3, n4⟩ := row_cells (w := w) (A := A) (ys := (xs.drop off).take l0) (sz := ye.size) (fun cs h => hlens cs (List.mem_append_left _ h)) (f := fun j => w.cell? ⟨b, d + off * ye.size + j, none⟩) (fun k j cs c hk hj => by
            obtain ⟨u, u1, u2⟩ := r3 (off + k) j cs c (at_ k cs hk) hj
            refine ⟨u, ?_, u2⟩
            rw [cell_of_heap r1, ← u1]
            congr 1; rw [Nat.add_mul]; omega)
          rw [hlen] at n1
          exact ⟨olds, run_firstCells_some w.drew ei.size l0 ⟨b, d + off * ye.size, none⟩ l0 cap olds (by rw [n1, hei.size]) (fun j u hj => by rw [add_plain']; simpa using n2 j u hj), n1, n4⟩
      have hrun := run_append_grow_src (P := P) w t tx ty e ei z hi.und hei.info hz base l0 cap olds o1 us ys.length news hsrc' hgrow (by omega) (grown_fit hgrow c3 (by rw [← hei.bytes]; exact hby))
      have hg : l0 + ys.length ≤ grownCap w (l0 + ys.length) cap e := grownCap_ge w _ _ e
      generalize hcap : grownCap w (l0 + ys.length) cap e = cap2 at hrun hg
      have hnl : news.length = ys.length * ye.size := by rw [hsrc'.newsLen, hei.size]
      have hsizes : ((olds ++ news).toArray ++ Builtin.zeroCells z.cells (cap2 - (l0 + ys.length))).size = l0 * ye.size + ys.length * ye.size + (cap2 - (l0 + ys.length)) * z.cells.size := by
        simp [size_zeroCells, o2, hnl]
      have hnew : (w.drew.alloc (.cells ((olds ++ news).toArray ++ Builtin.zeroCells z.cells (cap2 - (l0 + ys.length))) e)).heap[w.heap.size]? = some (.cells ((olds ++ news).toArray ++ Builtin.zeroCells z.cells (cap2 - (l0 + ys.length))) e) := heap_alloc_new w.drew _
      have hbig : (l0 + ys.length) * ye.size = l0 * ye.size + ys.length * ye.size := Nat.add_mul _ _ _
      have hcapm : cap2 * ye.size = (l0 + ys.length) * ye.size + (cap2 - (l0 + ys.length)) * ye.size := by rw [← Nat.add_mul]; congr 1; omega
      have g := alloc_drew w (.cells ((olds ++ news).toArray ++ Builtin.zeroCells z.cells (cap2 - (l0 + ys.length))) e)
      obtain ⟨b1, b2, b3⟩ := rep_move (w' := w.drew.alloc (.cells ((olds ++ news).toArray ++ Builtin.zeroCells z.cells (cap2 - (l0 + ys.length))) e)) (xs' := (xs.drop off).take l0 ++ ys) hH hmem (x := some (w.heap.size, 0)) (fun b' d' hb => by
          simp only [Option.some.injEq, Prod.mk.injEq] at hb; exact .inr (by simp; omega)) g.size g.os g.tape g.output (fun b' hb _ => g.keep b' hb) (fun hle => by
        refine ⟨hlens, fun hn => by rw [upd_same] at hn; simp at hn, fun b' d' hb => ?_⟩
        rw [upd_same] at hb
        simp only [Option.some.injEq, Prod.mk.injEq] at hb
        obtain ⟨rfl, rfl⟩ := hb
        refine ⟨_, e, hnew, by rw [hsizes, hzs]; simp only [List.length_append, hlen]; omega, fun k j cs c hk hj => ?_⟩
        rw [Nat.zero_add]
        rcases Nat.lt_or_ge k l0 with hlt | hge
        · rw [List.getElem?_append_left (by omega)] at hk
          obtain ⟨u, u1, u2⟩ := o3 k j cs c hk hj
          have hb := (List.getElem?_eq_some_iff.1 u1).1
          refine ⟨u, ?_, u2.mono hle.C hle.A⟩
          rw [Array.getElem?_append_left (by simp; omega)]
          simp only [List.getElem?_toArray]
          rw [List.getElem?_append_left hb]; exact u1
        · rw [List.getElem?_append_right (by omega), hlen] at hk
          obtain ⟨u, u1, u2⟩ := hsrc.rep _ j cs c hk hj
          have hb := (List.getElem?_eq_some_iff.1 u1).1
          have e1 : k * ye.size = l0 * ye.size + (k - l0) * ye.size := by rw [← Nat.add_mul]; congr 1; omega
          refine ⟨u, ?_, u2.mono hle.C hle.A⟩
          rw [Array.getElem?_append_left (by simp; omega)]
          simp only [List.getElem?_toArray]
          rw [List.getElem?_append_right (by omega), ← u1]
          congr 1; omega)
      refine ⟨_, _, hrun, _, hbufs hg ⟨fun _ a0 h => (by simp only [Option.some.injEq] at h; subst h; rfl), fun h => (by simp at h)⟩ (fun _ => ⟨w.heap.size, 0, ((olds ++ news).toArray ++ Builtin.zeroCells z.cells (cap2 - (l0 + ys.length))).size, upd_same, rfl, ?_, ?_⟩), b1, b2, b3⟩
      · (simp only [rowOf]; rw [hnew]; rfl)
      · rw [hsizes, hzs]; omega
  · simp at h
end
end Go.Ev
