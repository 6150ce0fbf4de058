/-
  EV, part F: every operation that is no call of a Go function.
-/
import Derived.Test.YtbilmkcdhodenaaDoorEvE
set_option linter.all false
set_option linter.unusedSimpArgs false
set_option linter.unusedVariables false
namespace Go.Ev
section
variable {P : Program} {w w' : World} {A : Nat → Prop} {bl : Bl} {H : Hp} {fr : Fr} {a : Act}

theorem made_flat {z : Array Value} {sz : Nat} (hz : z.size = sz) (n : Nat) : (madeCells z (n * sz)).toList = (List.replicate n z.toList).flatten := by
  unfold madeCells
  apply List.ext_getElem?
  intro j
  by_cases hj : j < n * sz
  · simp only [Array.toList_map, List.getElem?_map]
    rw [show (Array.range (n * sz)).toList[j]? = some j by simp [hj]]
    simp only [Option.map_some]
    have hs : 0 < sz := by rcases Nat.eq_zero_or_pos sz with h0 | h0; (rw [h0] at hj; omega); exact h0
    have key : ∀ (n j : Nat), j < n * sz → (List.replicate n z.toList).flatten[j]? = some z[j % z.size]! := by
      intro n
      induction n with
      | zero => intro j h; omega
      | succ n ih =>
        intro j h
        rw [Nat.add_mul, Nat.one_mul] at h
        simp only [List.replicate_succ, List.flatten_cons]
        rcases Nat.lt_or_ge j sz with hlt | hge
        · rw [List.getElem?_append_left (by simp; omega), Nat.mod_eq_of_lt (by omega), getElem!_pos z j (by omega)]
          simp
        · rw [List.getElem?_append_right (by simp; omega), Array.length_toList, ih _ (by omega), hz]
          congr 2
          rw [← Nat.mod_eq_sub_mod hge]
    rw [key n j hj]
  · rw [List.getElem?_eq_none (by simp; omega), List.getElem?_eq_none]
    simp [hz]; omega

/-- Equal elements that lie in line. -/
theorem repl_cells {m : List C} {us : List Value} (h : RepL w A bl H (m.map .c) us) : ∀ (n k j : Nat) (cs : List C) (x : C), (List.replicate n m)[k]? = some cs → cs[j]? = some x → ∃ u, (List.replicate n us).flatten[k * m.length + j]? = some u ∧ RepC w A x u := by
  have hl : us.length = m.length := by have := h.1; simp at this; omega
  intro n
  induction n with
  | zero => intro k j cs x hk; simp at hk
  | succ n ih =>
    intro k j cs x hk hj
    simp only [List.replicate_succ, List.flatten_cons]
    cases k with
    | zero =>
      simp only [List.replicate_succ, List.getElem?_cons_zero, Option.some.injEq] at hk
      subst hk
      have hlt := (List.getElem?_eq_some_iff.1 hj).1
      rw [List.getElem?_append_left (by omega)]
      refine ⟨us[0 * m.length + j]'(by omega), by simp, ?_⟩
      have := h.2 j (.c x) (us[0 * m.length + j]'(by omega)) (by simp [hj]) (by simp)
      cases this with | c _ _ h => exact h
    | succ k =>
      simp only [List.replicate_succ, List.getElem?_cons_succ] at hk
      obtain ⟨u, u1, u2⟩ := ih k j cs x hk hj
      rw [List.getElem?_append_right (by rw [Nat.add_mul]; omega)]
      refine ⟨u, ?_, u2⟩
      rw [← u1]; congr 1
      rw [Nat.add_mul]; omega

theorem op_makeSlice {T : TypeId → Option Ty} (hT : ∀ t y, T t = some y → tyOf P t = some y) (hH : RepH w A bl H) {t e : TypeId} {y ye : Ty} (ht : T t = some y) (hk : y.k = .slice e) (he : T e = some ye) {l m : Int} {kl km : IntKind} (h1 : 0 ≤ l) (h2 : l ≤ m) (h3 : m < 4294967296) (h4 : ye.bytes ≤ 4096) (hz : ye.zero.length = ye.size) :
    ∃ r w', (Instr.makeSlice t (.int kl l) (.int km m)).run P w = .ok r w' ∧ ∃ bl', RepV w' A bl' (H ++ [.mem ye.size 0 (List.replicate l.toNat ye.zero)]) (.buf H.length 0 0 l.toNat) r ∧ RepH w' A bl' (H ++ [.mem ye.size 0 (List.replicate l.toNat ye.zero)]) ∧
      Le w A bl H w' A bl' (H ++ [.mem ye.size 0 (List.replicate l.toNat ye.zero)]) ∧ Evo w A (Liv bl H) w' A (Liv bl' (H ++ [.mem ye.size 0 (List.replicate l.toNat ye.zero)])) := by
  obtain ⟨i, d, hi⟩ := get_wf hT ht
  have hdd : d = .slice e := kOf_slice (hk.symm.trans hi.k)
  subst hdd
  obtain ⟨ei, ed, hei⟩ := get_wf hT he
  obtain ⟨z, hz1, hz2, hz3⟩ := zero_of (w := w) (A := A) (bl := bl) (H := H) hei hz
  have hb : (ei.bytes : Int) * m ≤ 281474976710656 := by
    have hb' : (ei.bytes : Int) ≤ 4096 := by rw [← hei.bytes]; omega
    exact Int.le_trans (Int.mul_le_mul_of_nonneg_right hb' (by omega) : (ei.bytes : Int) * m ≤ 4096 * m) (by omega)
  have hrun := run_make (P := P) w t e ei z hi.und hei.info hz1 kl km l m h1 h2 hb (by omega)
  have hflat := made_flat hz3 m.toNat
  have hcells : ∀ (k j : Nat) (cs : List C) (x : C), (List.replicate l.toNat ye.zero)[k]? = some cs → cs[j]? = some x → ∃ u, (madeCells z.cells (m.toNat * ei.size))[k * ye.size + j]? = some u ∧ RepC w A x u := by
    intro k j cs x hk hj
    have hk' : (List.replicate m.toNat ye.zero)[k]? = some cs := by
      rw [List.getElem?_replicate] at hk ⊢
      split at hk <;> simp at hk
      rw [if_pos (by omega), hk]
    obtain ⟨u, u1, u2⟩ := repl_cells hz2 m.toNat k j cs x hk' hj
    refine ⟨u, ?_, u2⟩
    rw [← hflat, hz, Array.getElem?_toList] at u1
    rw [← hei.size]; exact u1
  have hlm : l.toNat * ye.size ≤ m.toNat * ye.size := Nat.mul_le_mul_right _ (by omega)
  obtain ⟨bl', b0, b1, b2, b3⟩ := push_mem hH (z := ye.size) (xs := List.replicate l.toNat ye.zero) (Grow.alloc w _) (by simp) (heap_alloc_new w (.cells (madeCells z.cells (m.toNat * ei.size)) e)) (fun cs hcs => by rw [(List.mem_replicate.1 hcs).2]; exact hz) (by rw [size_madeCells, ← hei.size]; simp; exact hlm) hcells
  refine ⟨_, _, hrun, bl', ?_, b1, b2, b3⟩
  refine .buf _ _ _ _ _ _ _ (by simp) (fun z e xs _ => Nat.zero_le _) fun z' xs' h' => ?_
  simp at h'
  obtain ⟨rfl, rfl⟩ := h'
  refine ⟨by simp, rfl, ⟨by omega, fun _ a0 h => (by simp only [Option.some.injEq] at h; subst h; rfl), fun h => (by simp at h)⟩, fun _ => ⟨w.heap.size, 0, (madeCells z.cells (m.toNat * ei.size)).size, b0, by simp, ?_, by rw [size_madeCells, ← hei.size]; simp⟩⟩
  have hnew := heap_alloc_new w (.cells (madeCells z.cells (m.toNat * ei.size)) e)
  simp only [rowOf]; rw [hnew]; rfl

theorem run_allocV {t : TypeId} {i : TypeInfo} {z : Value} (hi : P.info? t = some i) (hz : i.zero = some z) : (Instr.alloc t true (.tuple #[])).run P w = .ok (.pointer (some ⟨w.heap.size, 0, none⟩)) (w.alloc (.cells z.cells t)) := by
  unfold Instr.alloc
  simp [run_zeroValue hi hz, newVar, newRow]

theorem lenV_run {T : TypeId → Option Ty} (hT : ∀ t y, T t = some y → tyOf P t = some y) {t : TypeId} {x : V} {n : Nat} (h : lenV T H t x = some n) {u : Value} (hx : RepV w A bl H x u) (ty : TypeId) : (Builtin.len_ #[t] ty #[u]).run P w = .ok (.int .i64 n) w := by
  unfold lenV at h
  split at h
  case h_1 => simp at h
  rename_i y hy
  obtain ⟨i, d, hi⟩ := get_wf hT hy
  split at h
  · rename_i s hk
    have hd : d = .string := kOf_str (hk.symm.trans hi.k)
    subst hd
    simp only [Option.some.injEq] at h
    subst h
    obtain rfl := hx.str_inv
    have hsz : (ByteArray.mk s.toArray).size = s.length := by simp [ByteArray.size]
    unfold Builtin.len_
    simp only [List.getElem?_toArray, List.getElem?_cons_zero, Sem.run_bind, run_underlying hi.und, Result.andThen_ok, hsz]
    rfl
  · rename_i e z nl ti l hk
    have hd : d = .slice e := kOf_slice (hk.symm.trans hi.k)
    subst hd
    simp only [Option.some.injEq] at h
    subst h
    rcases hx.sl_inv with ⟨rfl, rfl, _⟩ | ⟨b, cap, vs, rfl, _⟩ <;> simp [Builtin.len_, run_underlying hi.und, goInt]
  · rename_i e i0 ep off n0 hk
    have hd : d = .slice e := kOf_slice (hk.symm.trans hi.k)
    subst hd
    split at h
    case h_2 => simp at h
    rename_i z e1 xs hmem
    split at h <;> simp only [Option.some.injEq, reduceCtorEq] at h
    rename_i he
    subst he; subst h
    obtain ⟨b, l0, cap, rfl, g1, g2, g3⟩ := hx.buf_inv
    obtain ⟨k1, hl0, ⟨k3, k5, k6⟩, k4⟩ := g3 z xs hmem
    subst hl0
    simp [Builtin.len_, run_underlying hi.und, goInt]
  · rename_i m e hk
    have hd : d = .array m e := kOf_array (hk.symm.trans hi.k)
    subst hd
    simp only [Option.some.injEq] at h
    subst h
    simp [Builtin.len_, run_underlying hi.und, goInt]
  · rename_i e hk
    have hd : d = .pointer e := kOf_ptr (hk.symm.trans hi.k)
    subst hd
    split at h
    case h_2 => simp at h
    rename_i ye hye
    split at h <;> simp only [Option.some.injEq, reduceCtorEq] at h
    subst h
    rename_i m e' hk'
    obtain ⟨i', d', hi'⟩ := get_wf hT hye
    have hd : d' = .array m e' := kOf_array (hk'.symm.trans hi'.k)
    subst hd
    simp [Builtin.len_, run_underlying hi.und, run_underlying hi'.und, goInt]
  · simp at h

theorem minMax_run : ∀ {r : List V} {x v : V} {gt : Bool} {us : List Value} {u : Value}, minMax gt x r = some v → RepV w A bl H x u → r.length = us.length → (∀ (j : Nat) (x : V) (u : Value), r[j]? = some x → us[j]? = some u → RepV w A bl H x u) →
    ∃ q, (us.foldlM (if gt then Builtin.max2 else Builtin.min2) u).run P w = .ok q w ∧ RepV w A bl H v q
  | [], x, v, gt, us, u, h, hx, hl, hr => by
    obtain rfl : us = [] := List.eq_nil_of_length_eq_zero hl.symm
    simp only [minMax, Option.some.injEq] at h
    subst h
    exact ⟨u, rfl, hx⟩
  | y :: r, x, v, gt, us, u, h, hx, hl, hr => by
    obtain ⟨u', us, rfl⟩ : ∃ u' us', us = u' :: us' := by
      cases us with
      | nil => simp at hl
      | cons u l => exact ⟨u, l, rfl⟩
    have hy := hr 0 y u' rfl rfl
    unfold minMax at h
    split at h
    · simp_all
    · rename_i k x0 k' y0 r' he
      simp only [List.cons.injEq] at he
      obtain ⟨rfl, rfl⟩ := he
      split at h
      case isFalse => simp at h
      rename_i hk
      subst hk
      obtain rfl := hx.int_inv
      obtain rfl := hy.int_inv
      have hstep : ((if gt then Builtin.max2 else Builtin.min2) (.int k x0) (.int k y0)).run P w = .ok (.int k (if (if gt then x0 < y0 else y0 < x0) then y0 else x0)) w := by
        cases gt <;> simp [Builtin.max2, Builtin.min2]
      obtain ⟨q, q1, q2⟩ := minMax_run (gt := gt) h (RepV.int k _) (us := us) (by simpa using hl) (fun j x u hj hu => hr (j + 1) x u (by simpa using hj) (by simpa using hu))
      refine ⟨q, ?_, q2⟩
      rw [List.foldlM_cons, Sem.run_bind, hstep]
      exact q1
    · simp at h

theorem run_call_builtin {o : Oper} {b : Builtin} {args : Array Operand} {ts : Array TypeId} (ho : o.op = .call ⟨.builtin b, args, ts⟩) : (execOp a.eval o).run P w = (builtin b ts o.type (args.map fun | .const _ => true | _ => false) (args.map a.eval)).run P w := by
  simp [execOp, ho, resolve, invoke]
  rfl

theorem out_of_run {o : Oper} {s : Sem Value} {v : V} {H' : Hp} (he : (execOp a.eval o).run P w = (do pure (Next.value (← s)) : Sem Next).run P w) {r : Value} {w' : World} (hr : s.run P w = .ok r w') {A' : Nat → Prop} {bl' : Bl} (h1 : RepV w' A' bl' H' v r) (h2 : RepH w' A' bl' H') (h3 : Le w A bl H w' A' bl' H') (h4 : Evo w A (Liv bl H) w' A' (Liv bl' H')) : Out P a o w A bl H v H' :=
  ⟨r, w', A', bl', .inl (by rw [he]; simp [hr]), h1, h2, h3, h4⟩
theorem out_pure {o : Oper} {s : Sem Value} {v : V} (hH : RepH w A bl H) (he : (execOp a.eval o).run P w = (do pure (Next.value (← s)) : Sem Next).run P w) {r : Value} (hr : s.run P w = .ok r w) (h1 : RepV w A bl H v r) : Out P a o w A bl H v H :=
  out_of_run he hr h1 hH (Le.refl _ _ _ _) (Evo.refl _ _ _)

theorem bnd_map (hF : RepF w A bl H fr a.tmps) {x : Option Operand} {n : Option Nat} (h : bnd fr x = some n) : (x.map a.eval = none ∧ n = none) ∨ ∃ k m, x.map a.eval = some (.int k (m : Nat)) ∧ n = some m := by
  rcases bnd_rep hF h with ⟨rfl, rfl⟩ | ⟨o, k, m, rfl, rfl, he⟩
  · exact .inl ⟨rfl, rfl⟩
  · exact .inr ⟨k, m, by simp [he], rfl⟩

theorem pureR_inv {x : Option V} {v : V} {H' : Hp} {k : Nat} (h : pureR H x = some (v, H', k)) : x = some v ∧ H' = H := by
  unfold pureR at h
  split at h <;> simp only [Option.some.injEq, Prod.mk.injEq, reduceCtorEq] at h
  obtain ⟨rfl, rfl, _⟩ := h
  exact ⟨rfl, rfl⟩

theorem moveV_out {T : TypeId → Option Ty} (hH : RepH w A bl H) {o : Oper} {u : Value} (he : (execOp a.eval o).run P w = .ok (.value u) w) {ow : Bool} {t : TypeId} {x v : V} (hr : RepV w A bl H x u) {H' : Hp} {k : Nat} (h : moveV T ow H t x = some (v, H', k)) : Out P a o w A bl H v H' := by
  unfold moveV at h
  split at h
  · have hv : u = .slice none 0 0 := by
      rcases hr.sl_inv with ⟨h, _⟩ | ⟨b, cap, vs, h, h1, h2, _⟩
      · exact h
      · exact absurd rfl h2
    have hnil : ∀ n, RepV w A bl H (.c (.sl n (some true) true [])) u := fun n => by rw [hv]; exact .c _ _ (.slnil _ _ _ (by simp))
    split at h
    · unfold nilRow at h
      split at h
      case h_1 => simp at h
      split at h
      case h_2 => simp at h
      split at h <;> simp only [Option.some.injEq, Prod.mk.injEq, reduceCtorEq] at h
      rename_i ye hye
      obtain ⟨rfl, rfl, _⟩ := h
      obtain ⟨bl', b1, b2, b3, b4⟩ := push_none hH ye.size
      refine ⟨_, w, A, bl', .inl he, ?_, b2, b3, b4⟩
      rw [hv]
      exact buf_none (z := ye.size) (by simp)
    · split at h
      · split at h <;> simp only [Option.some.injEq, Prod.mk.injEq] at h
        · obtain ⟨rfl, rfl, _⟩ := h
          exact Out.pure hH he (hnil _)
        · obtain ⟨rfl, rfl, _⟩ := h
          exact Out.pure hH he (hnil _)
      · simp only [Option.some.injEq, Prod.mk.injEq] at h
        obtain ⟨rfl, rfl, _⟩ := h
        exact Out.pure hH he (hnil _)
  · simp only [Option.some.injEq, Prod.mk.injEq] at h
    obtain ⟨rfl, rfl, _⟩ := h
    exact Out.pure hH he hr

theorem opdL_arr (hF : RepF w A bl H fr a.tmps) {xs : Array Operand} {vs : List V} (h : opdL fr xs.toList = some vs) : vs.length = (xs.map a.eval).size ∧ ∀ (j : Nat) (x : V) (u : Value), vs[j]? = some x → (xs.map a.eval)[j]? = some u → RepV w A bl H x u := by
  obtain ⟨h1, h2⟩ := opdL_rep hF h
  refine ⟨by simp [h1], fun j x u hj hu => h2 j x u hj ?_⟩
  rw [← Array.getElem?_toList] at hu
  simpa using hu
theorem opdP_arr (hF : RepF w A bl H fr a.tmps) {xs : Array (Nat × Operand)} {vs : List (Nat × V)} (h : opdP fr xs.toList = some vs) : vs.length = (xs.map fun (i, x) => (i, a.eval x)).size ∧
    ∀ (j : Nat) (x : Nat × V) (u : Nat × Value), vs[j]? = some x → (xs.map fun (i, x) => (i, a.eval x))[j]? = some u → x.1 = u.1 ∧ RepV w A bl H x.2 u.2 := by
  obtain ⟨h1, h2⟩ := opdP_rep hF h
  refine ⟨by simp at h1; simp [h1], fun j x u hj hu => h2 j x u hj ?_⟩
  rw [← Array.getElem?_toList] at hu
  simpa using hu

theorem repl_flat {α : Type} {z : List α} {x : α} : ∀ (n k j : Nat), k < n → z[j]? = some x → (List.replicate n z).flatten[k * z.length + j]? = some x
  | 0, k, j, hk, _ => by omega
  | n + 1, k, j, hk, hj => by
    have hj' := (List.getElem?_eq_some_iff.1 hj).1
    simp only [List.replicate_succ, List.flatten_cons]
    cases k with
    | zero => rw [List.getElem?_append_left (by omega)]; simpa using hj
    | succ k =>
      rw [List.getElem?_append_right (by rw [Nat.add_mul]; omega), ← repl_flat n k j (by omega) hj]
      congr 1; rw [Nat.add_mul]; omega

theorem allocV_out {T : TypeId → Option Ty} (hT : ∀ t y, T t = some y → tyOf P t = some y) (hH : RepH w A bl H) {o : Oper} {t : TypeId} (ho : o.op = .alloc t) {ow : Bool} {v : V} {H' : Hp} {k : Nat} (h : allocV T ow H t = some (v, H', k)) : Out P a o w A bl H v H' := by
  have he : (execOp a.eval o).run P w = (do pure (Next.value (← Instr.alloc t true (.tuple #[]))) : Sem Next).run P w := by simp [execOp, ho]
  unfold allocV at h
  split at h
  case h_1 => simp at h
  rename_i y hy
  obtain ⟨i, d, hi⟩ := get_wf hT hy
  have plain : y.zero.length = y.size → some (V.ptr H.length 0 0 0, H ++ [O.box (y.zero.map .c)], 2) = some (v, H', k) → Out P a o w A bl H v H' := by
    intro hz h
    simp only [Option.some.injEq, Prod.mk.injEq] at h
    obtain ⟨rfl, rfl, _⟩ := h
    obtain ⟨z, hz1, hz2, hz3⟩ := zero_of (w := w) (A := A) (bl := bl) (H := H) hi hz
    obtain ⟨bl', b1, b2, b3, b4⟩ := push_box hH (cs := y.zero.map .c) (us := z.cells) (by simp; omega) (fun j x u hj hu => hz2.2 j x u hj (by simpa using hu)) t
    exact out_of_run he (run_allocV hi.info hz1) b4 b1 b2 b3
  split at h
  · rename_i n e hk
    split at h <;> simp only [Option.some.injEq, Prod.mk.injEq, reduceCtorEq] at h
    obtain ⟨rfl, rfl, _⟩ := h
    have hd := kOf_array (hk.symm.trans hi.k)
    subst hd
    obtain ⟨j, z0, lz, l0, q1, q2, q3, q4, q5, q6⟩ := hi.arr _ _ rfl
    subst q5
    have hlz := repL_zeroF (w := w) (A := A) (bl := bl) (H := H) q4 (q6.rows n)
    have hnew := heap_alloc_new w (.cells z0.cells t)
    have hsize : z0.cells.size = n * y.el.length := by
      have := cOfL_len q4; have h2 := q6.length; simp [List.length_flatten] at this; rw [h2]; exact this.symm
    have hcells : ∀ (k j : Nat) (cs : List C) (x : C), (List.replicate n y.el)[k]? = some cs → cs[j]? = some x → ∃ u, z0.cells[k * y.el.length + j]? = some u ∧ RepC w A x u := by
      intro k j cs x hk hj
      have hk' := (List.getElem?_eq_some_iff.1 hk).1
      have hcs := List.eq_of_mem_replicate (List.mem_of_getElem? hk)
      subst hcs
      have hj' := (List.getElem?_eq_some_iff.1 hj).1
      simp at hk'
      have hm : (k + 1) * y.el.length ≤ n * y.el.length := Nat.mul_le_mul_right _ hk'
      rw [Nat.add_mul] at hm
      have hlt : k * y.el.length + j < z0.cells.size := by omega
      refine ⟨z0.cells[k * y.el.length + j], by simp [hlt], ?_⟩
      have hx := repl_flat n k j hk' hj
      have := hlz.2 (k * y.el.length + j) (.c x) z0.cells[k * y.el.length + j] (by rw [List.getElem?_map, hx]; rfl) (by simp [hlt])
      cases this with | c _ _ h => exact h
    obtain ⟨bl', b0, b1, b2, b3⟩ := push_mem hH (z := y.el.length) (xs := List.replicate n y.el) (Grow.alloc w _) (by simp) hnew (fun cs hcs => by rw [(List.mem_replicate.1 hcs).2]) (by simp [hsize]) hcells
    refine out_of_run he (run_allocV hi.info q3) ?_ b1 b2 b3
    exact .ptr _ _ _ _ _ (by simp) (fun z e xs _ => Nat.zero_le _) (fun cs h => by simp at h) (fun z' xs h => ⟨_, _, b0, by simp⟩)
  · rename_i e hk
    have hd := kOf_slice (hk.symm.trans hi.k)
    subst hd
    have hz := hi.zero' (fun n e' he => by cases he)
    split at h
    · split at h
      case h_2 => simp at h
      rename_i ye hye
      split at h <;> simp only [Option.some.injEq, Prod.mk.injEq, reduceCtorEq] at h
      rename_i hone
      obtain ⟨zz, hone⟩ : ∃ zz, y.zero = [.sl zz (some true) true []] := by
        unfold nilOnly at hone
        split at hone
        · exact ⟨_, by assumption⟩
        · simp at hone
      obtain ⟨rfl, rfl, _⟩ := h
      obtain ⟨bl1, b1, b2, b3, b4⟩ := push_none hH ye.size
      obtain ⟨z, hz1, hz2, hz3⟩ := zero_of (w := w) (A := A) (bl := bl) (H := H) hi hz
      have hzn : z.cells = #[.slice none 0 0] := by
        rw [hone] at hz2
        obtain ⟨u, hu⟩ : ∃ u, z.cells.toList = [u] := by
          have := hz2.1
          match hq : z.cells.toList, this with
          | [u], _ => exact ⟨u, rfl⟩
        have := hz2.2 0 _ u rfl (by rw [hu]; rfl)
        apply Array.ext'
        rw [hu]
        rcases this.sl_inv with ⟨rfl, _⟩ | ⟨b, cap, vs, _, _, h2, _⟩
        · rfl
        · exact absurd rfl h2
      obtain ⟨bl', d1, d2, d3, d4⟩ := push_box b2 (cs := [.buf H.length 0 0 0]) (us := z.cells) (by rw [hzn]; rfl) (fun j x u hj hu => by
        rw [hzn] at hu
        cases j with
        | zero => simp at hj hu; subst hj; subst hu; exact buf_none (z := ye.size) (by simp)
        | succ j => simp at hj) t
      simp only [List.length_append, List.length_cons, List.length_nil, Nat.zero_add] at d4
      exact out_of_run he (run_allocV hi.info hz1) d4 d1 (b3.trans d2) (b4.trans d3)
    · exact plain hz h
  · rename_i h1 h2
    refine plain (hi.zero' fun n e' he => ?_) h
    subst he
    exact h1 n e' (hi.k.trans rfl)

theorem boxV_out (hH : RepH w A bl H) {o : Oper} {t : TypeId} {x : Operand} (ho : o.op = .box t x) {v0 : V} (hr : RepV w A bl H v0 (a.eval x)) {v : V} {H' : Hp} {k : Nat} (h : boxV H v0 = some (v, H', k)) : Out P a o w A bl H v H' := by
  unfold boxV at h
  split at h <;> simp only [Option.some.injEq, Prod.mk.injEq, reduceCtorEq] at h
  rename_i hall
  obtain ⟨rfl, rfl, _⟩ := h
  obtain ⟨r1, r2, r3⟩ := hr.cells hall
  obtain ⟨bl', b1, b2, b3, b4⟩ := push_box hH (cs := v0.cells) (us := (a.eval x).cells) r1.symm r2 t
  exact out_of_run (s := Instr.box t (a.eval x)) (by simp [execOp, ho]) (by simp [Instr.box, newVar, newRow]) b4 b1 b2 b3

theorem sliceV_out {T : TypeId → Option Ty} (hT : ∀ t y, T t = some y → tyOf P t = some y) (hH : RepH w A bl H) {o : Oper} {t : TypeId} {u : Value} {lo' hi' mx' : Option Value} (he : (execOp a.eval o).run P w = (do pure (Next.value (← Instr.sliceAt t u lo' hi' mx')) : Sem Next).run P w) {x : V} (hu : RepV w A bl H x u) {lo hi mx : Option Nat}
    (hl : (lo' = none ∧ lo = none) ∨ ∃ k m, lo' = some (.int k (m : Nat)) ∧ lo = some m) (hh : (hi' = none ∧ hi = none) ∨ ∃ k m, hi' = some (.int k (m : Nat)) ∧ hi = some m) (hm : (mx' = none ∧ mx = none) ∨ ∃ k m, mx' = some (.int k (m : Nat)) ∧ mx = some m)
    {v : V} {H' : Hp} {k : Nat} (h : sliceV T H t x lo hi mx = some (v, H', k)) : Out P a o w A bl H v H' := by
  unfold sliceV at h
  split at h
  case h_1 => simp at h
  rename_i y hy
  split at h
  · rename_i s hk
    split at h
    case h_2 => simp at h
    split at h <;> simp only [Option.some.injEq, Prod.mk.injEq, reduceCtorEq] at h
    rename_i hc
    obtain ⟨rfl, rfl, _⟩ := h
    obtain rfl := hu.str_inv
    have hmx : mx' = none := by
      rcases hm with ⟨h, _⟩ | ⟨_, _, _, h⟩
      · exact h
      · simp at h
    subst hmx
    exact out_pure hH he (op_slice_str hT hy hk hl hh hc.1 hc.2) (.str _)
  · rename_i e z nl ti xs hk
    split at h
    case h_1 => simp at h
    rename_i ye hye
    split at h <;> simp only [Option.some.injEq, Prod.mk.injEq, reduceCtorEq] at h
    rename_i hc
    obtain ⟨rfl, rfl, _⟩ := h
    obtain ⟨c1, c2, c3, c4⟩ := hc
    obtain ⟨ei, ed, hei⟩ := get_wf hT hye
    obtain ⟨b, cap, rfl, hcap, hrep⟩ := sl_cut hu (size := ei.size) (l := lo.getD 0) (h := hi.getD xs.length) (fun hne => by rw [← hei.size]; exact (c4.resolve_right hne).symm) c1 c2 (fun cap => mx.getD cap) (fun cap hc => by
        rcases c3 with rfl | ⟨rfl, _⟩ <;> simp <;> omega) (ti' := cutTight mx (ti && decide (hi.getD xs.length = xs.length))) (fun ht cap hc hct => by
        rcases c3 with rfl | ⟨rfl, _⟩
        · simp only [cutTight] at ht
          simp only [Bool.and_eq_true, decide_eq_true_eq] at ht
          simp only [Option.getD_none]
          rw [hct ht.1, ht.2]
        · simp)
    exact out_pure hH he (op_slice_sl hT hy hk hei.info hl hh hm c1 (by rcases c3 with rfl | ⟨rfl, _⟩ <;> simp <;> omega) (by rcases c3 with rfl | ⟨rfl, _⟩ <;> simp; omega) (fun hn => by rcases c3 with rfl | ⟨_, h⟩; exact absurd rfl hn; exact h)) hrep
  · rename_i e i0 ep off len hk
    split at h
    case h_2 => simp at h
    rename_i ye z ep' xs hye hmem
    split at h <;> simp only [Option.some.injEq, Prod.mk.injEq, reduceCtorEq] at h
    rename_i hc
    obtain ⟨rfl, rfl, _⟩ := h
    obtain ⟨c1, c2, c3, rfl, rfl⟩ := hc
    obtain ⟨ei, ed, hei⟩ := get_wf hT hye
    obtain ⟨b, cap, rfl, hcap, hrep⟩ := buf_cut hu hmem (l := lo.getD 0) (h := hi.getD len) c1 c2 (fun cap => mx.getD cap) (fun cap hc => by rcases c3 with rfl | ⟨rfl, _⟩ <;> simp <;> omega)
    rw [hei.size] at hrep
    exact out_pure hH he (op_slice_sl hT hy hk hei.info hl hh hm c1 (by rcases c3 with rfl | ⟨rfl, _⟩ <;> simp <;> omega) (by rcases c3 with rfl | ⟨rfl, _⟩ <;> simp; omega) (fun hn => by rcases c3 with rfl | ⟨_, h⟩; exact absurd rfl hn; exact h)) hrep
  · simp at h

theorem buildV_out {T : TypeId → Option Ty} (hT : ∀ t y, T t = some y → tyOf P t = some y) (hH : RepH w A bl H) (hF : RepF w A bl H fr a.tmps) {o : Oper} {t : TypeId} {ps : Array (Nat × Operand)} (ho : o.op = .build t ps) {l : List (Nat × V)} (hl : opdP fr ps.toList = some l) {v : V} {H' : Hp} {k : Nat} (h : buildV T H t l = some (v, H', k)) : Out P a o w A bl H v H' := by
  unfold buildV at h
  split at h
  case h_1 => simp at h
  rename_i y hy
  split at h
  case h_2 => simp at h
  rename_i fs hk
  split at h <;> simp only [Option.some.injEq, Prod.mk.injEq, reduceCtorEq] at h
  rename_i cs hcs
  obtain ⟨rfl, rfl, _⟩ := h
  obtain ⟨h1, h2⟩ := opdP_arr hF hl
  obtain ⟨r, hr, hrep⟩ := op_build hT hy hk h1 h2 hcs
  exact out_pure hH (by simp [execOp, ho]) hr hrep

theorem buildSliceV_out {T : TypeId → Option Ty} (hT : ∀ t y, T t = some y → tyOf P t = some y) (hH : RepH w A bl H) (hF : RepF w A bl H fr a.tmps) {o : Oper} {t : TypeId} {n : Nat} {ps : Array (Nat × Operand)} (ho : o.op = .buildSlice t n ps) {l : List (Nat × V)} (hl : opdP fr ps.toList = some l) {v : V} {H' : Hp} {k : Nat} {ow : Bool} (h : buildSliceV T ow H t n l = some (v, H', k)) : Out P a o w A bl H v H' := by
  unfold buildSliceV at h
  split at h
  case h_1 => simp at h
  rename_i y hy
  split at h
  case h_2 => simp at h
  rename_i e hk
  split at h
  case h_1 => simp at h
  rename_i ye hye
  split at h
  case isFalse => simp at h
  rename_i hc
  split at h
  case h_2 => simp at h
  rename_i cs hcs
  split at h
  case h_2 => simp at h
  rename_i cs' hp
  obtain ⟨h1, h2⟩ := opdP_arr hF hl
  unfold laid at h
  split at h <;> simp only [Option.some.injEq, Prod.mk.injEq] at h <;> obtain ⟨rfl, rfl, _⟩ := h
  · obtain ⟨r, w', hr, bl', q1, q2, q3, q4⟩ := op_buildSliceOwn hT hH hy hk hye hc.1 hc.2 h1 h2 hcs hp
    exact out_of_run (s := Instr.buildSlice t n _) (by simp [execOp, ho]) hr q1 q2 q3 q4
  · obtain ⟨r, w', hr, A', q1, q2, q3, q4⟩ := op_buildSlice hT hH hy hk hye hc.1 hc.2 h1 h2 hcs hp
    exact out_of_run (s := Instr.buildSlice t n _) (by simp [execOp, ho]) hr q1 q2 q3 q4

theorem nilCheckV_out (hH : RepH w A bl H) {o : Oper} {x : Operand} (ho : o.op = .nilCheck x) {v0 : V} (hr : RepV w A bl H v0 (a.eval x)) {v : V} {H' : Hp} {k : Nat} (h : nilCheckV H v0 = some (v, H', k)) : Out P a o w A bl H v H' := by
  unfold nilCheckV at h
  split at h <;> simp only [Option.some.injEq, Prod.mk.injEq, reduceCtorEq] at h <;> obtain ⟨rfl, rfl, _⟩ := h
  · obtain ⟨b, hb, _⟩ := hr.ptr_inv
    exact Out.pure hH (by simp [execOp, ho, hb]) hr
  · obtain ⟨b, hb, _⟩ := hr.fp_inv
    exact Out.pure hH (by simp [execOp, ho, hb]) hr

theorem makeSliceV_out {T : TypeId → Option Ty} (hT : ∀ t y, T t = some y → tyOf P t = some y) (hH : RepH w A bl H) {o : Oper} {t : TypeId} {n c : Operand} (ho : o.op = .makeSlice t n c) {x y : V} (hx : RepV w A bl H x (a.eval n)) (hy : RepV w A bl H y (a.eval c)) {v : V} {H' : Hp} {k : Nat} (h : makeSliceV T H t x y = some (v, H', k)) : Out P a o w A bl H v H' := by
  unfold makeSliceV at h
  split at h
  case h_1 => simp at h
  rename_i yt hyt
  split at h
  case h_2 => simp at h
  rename_i e hk
  split at h
  case h_1 => simp at h
  rename_i ye hye
  split at h
  case h_2 => simp at h
  split at h <;> simp only [Option.some.injEq, Prod.mk.injEq, reduceCtorEq] at h
  rename_i hc
  obtain ⟨rfl, rfl, _⟩ := h
  have hn := hx.int_inv
  have hcv := hy.int_inv
  obtain ⟨r, w', hr, bl', q1, q2, q3, q4⟩ := op_makeSlice hT hH hyt hk hye hc.1 hc.2.1 hc.2.2.1 hc.2.2.2.1 hc.2.2.2.2
  exact out_of_run (s := Instr.makeSlice t (a.eval n) (a.eval c)) (by simp [execOp, ho]) (by rw [hn, hcv]; exact hr) q1 q2 q3 q4

theorem fieldAddrV_out {T : TypeId → Option Ty} (hT : ∀ t y, T t = some y → tyOf P t = some y) (hH : RepH w A bl H) {o : Oper} {s : TypeId} {x : Operand} {f : Nat} (ho : o.op = .fieldAddr s x f) {v0 : V} (hr : RepV w A bl H v0 (a.eval x)) {v : V} {H' : Hp} {k : Nat} (h : fieldAddrV T H s v0 f = some (v, H', k)) : Out P a o w A bl H v H' := by
  unfold fieldAddrV at h
  split at h
  case h_1 => simp at h
  rename_i y hy
  split at h
  case h_2 => simp at h
  rename_i fs hk
  split at h
  case h_1 => simp at h
  rename_i q hq
  split at h
  case isFalse => simp at h
  rename_i hne
  obtain ⟨off, size, ag⟩ := q
  split at h <;> simp only [Option.some.injEq, Prod.mk.injEq, reduceCtorEq] at h <;> obtain ⟨rfl, rfl, _⟩ := h
  · rename_i i ep el o0
    obtain ⟨b, hb, g1, g2, g3, g4⟩ := hr.ptr_inv
    refine out_pure (s := Instr.fieldAt s (a.eval x) f) hH (by simp [execOp, ho]) (by rw [hb]; exact op_fieldAddr hT hy hk hq hne b) ?_
    refine .ptr _ _ _ _ _ g1 g2 (fun cs hcs => ?_) (fun z xs hz => ?_)
    · obtain ⟨b', k1, k2⟩ := g3 cs hcs
      exact ⟨b', k1, fun hel => by rw [k2 hel, add_plain']⟩
    · obtain ⟨b', d, k1, k2⟩ := g4 z xs hz
      refine ⟨b', d, k1, ?_⟩
      rw [k2, add_plain']
      simp only [Addr.mk.injEq, and_true, true_and]
      omega
  · rename_i cs
    obtain ⟨b, hb, hs, hc⟩ := hr.fp_inv
    refine out_pure (s := Instr.fieldAt s (a.eval x) f) hH (by simp [execOp, ho]) (by rw [hb]; exact op_fieldAddr hT hy hk hq hne b) ?_
    rw [add_spot hs]
    refine .fp _ _ rfl fun j x hj => ?_
    rw [List.getElem?_drop] at hj
    obtain ⟨k1, u, k2, k3⟩ := hc _ x hj
    refine ⟨k1, u, ?_, k3⟩
    rw [← k2]
    congr 2
    show b.off + off + j = _
    omega

theorem fieldV_out {T : TypeId → Option Ty} (hT : ∀ t y, T t = some y → tyOf P t = some y) (hH : RepH w A bl H) {o : Oper} {s : TypeId} {x : Operand} {f : Nat} (ho : o.op = .field s x f) {v0 : V} (hr : RepV w A bl H v0 (a.eval x)) {v : V} {H' : Hp} {k : Nat} (h : fieldV T H s v0 f = some (v, H', k)) : Out P a o w A bl H v H' := by
  unfold fieldV at h
  split at h
  case h_1 => simp at h
  rename_i y hy
  split at h
  case h_2 => simp at h
  rename_i fs xs hk
  split at h
  case h_1 => simp at h
  rename_i q hq
  split at h
  case h_2 => simp at h
  rename_i l hl
  obtain ⟨off, size, ag⟩ := q
  obtain ⟨h1, rfl⟩ := pureR_inv h
  obtain ⟨r, hr', hrep⟩ := op_field hT hy hk hq hl h1 hr
  exact out_pure hH (by simp [execOp, ho]) hr' hrep

theorem indexAddrV_out {T : TypeId → Option Ty} (hT : ∀ t y, T t = some y → tyOf P t = some y) (hH : RepH w A bl H) {o : Oper} {t : TypeId} {x ix : Operand} (ho : o.op = .indexAddr t x ix) {v0 vi : V} (hr : RepV w A bl H v0 (a.eval x)) (hi : RepV w A bl H vi (a.eval ix)) {v : V} {H' : Hp} {k : Nat} (h : indexAddrV T H t v0 vi = some (v, H', k)) : Out P a o w A bl H v H' := by
  have he : (execOp a.eval o).run P w = (do pure (Next.value (← Instr.indexAt t (a.eval x) (a.eval ix))) : Sem Next).run P w := by simp [execOp, ho]
  unfold indexAddrV at h
  split at h
  case h_2 => simp at h
  rename_i kn n
  split at h
  case isFalse => simp at h
  rename_i h0
  have hix := hi.int_inv
  rw [hix] at he
  obtain ⟨m, rfl⟩ := Int.eq_ofNat_of_zero_le h0
  simp only [Int.toNat_natCast] at h
  split at h
  case h_1 => simp at h
  rename_i y hy
  split at h
  · rename_i e hk
    split at h
    case h_1 => simp at h
    rename_i ye hye
    obtain ⟨ei, ed, hei⟩ := get_wf hT hye
    split at h
    · rename_i z nl ti xs
      split at h
      case isFalse => simp at h
      rename_i hz
      split at h <;> simp only [Option.some.injEq, Prod.mk.injEq, reduceCtorEq] at h
      rename_i cs hcs
      obtain ⟨rfl, rfl, _⟩ := h
      obtain ⟨b, cap, hb, hfp⟩ := fp_of_sl hr hcs
      rw [hb] at he
      refine out_pure hH he (op_indexAddr_sl hT hy hk hei.info ((List.getElem?_eq_some_iff.1 hcs).1)) ?_
      rw [← hei.size, ← hz]
      exact hfp
    · rename_i i0 ep off len
      split at h
      case h_2 => simp at h
      rename_i z ep' xs hmem
      split at h <;> simp only [Option.some.injEq, Prod.mk.injEq, reduceCtorEq] at h
      rename_i hc
      obtain ⟨c1, rfl, rfl⟩ := hc
      obtain ⟨rfl, rfl, _⟩ := h
      obtain ⟨b, cap, hb, hfp⟩ := ptr_of_buf hr hmem (n := m) (by omega)
      rw [hb] at he
      refine out_pure hH he (op_indexAddr_sl hT hy hk hei.info (by omega)) ?_
      rw [← hei.size]
      exact hfp
    · simp at h
  · rename_i m' e hk
    split at h
    case h_1 => simp at h
    rename_i ye hye
    obtain ⟨ei, ed, hei⟩ := get_wf hT hye
    split at h
    case isFalse => simp at h
    rename_i hlt
    split at h
    case h_2 => simp at h
    rename_i i0 ep el o0
    obtain ⟨b, hb, g1, g2, g3, g4⟩ := hr.ptr_inv
    rw [hb] at he
    have hrun := op_indexAddr_arr (P := P) (w := w) hT hy hk hei.info (a := b) (n := m) (k := kn) (by omega)
    split at h
    · rename_i z ep' xs hmem
      split at h <;> simp only [Option.some.injEq, Prod.mk.injEq, reduceCtorEq] at h
      rename_i hc
      obtain ⟨rfl, rfl, rfl⟩ := hc
      obtain ⟨rfl, rfl, _⟩ := h
      refine out_pure hH he hrun ?_
      refine .ptr _ _ _ _ _ g1 g2 (fun cs hcs => by rw [hmem] at hcs; simp at hcs) (fun z' xs' hz => ?_)
      obtain ⟨b', d, k1, k2⟩ := g4 z' xs' hz
      rw [hmem] at hz
      simp only [Option.some.injEq, O.mem.injEq] at hz
      obtain ⟨rfl, _, _⟩ := hz
      refine ⟨b', d, k1, ?_⟩
      rw [k2, add_plain', hei.size]
      simp only [Addr.mk.injEq, and_true, true_and]
      omega
    · rename_i cs0 hbox
      simp only [Option.some.injEq, Prod.mk.injEq] at h
      obtain ⟨rfl, rfl, _⟩ := h
      refine out_pure hH he hrun ?_
      refine .ptr _ _ _ _ _ g1 g2 (fun cs hcs => ?_) (fun z' xs' hz => by rw [hbox] at hz; simp at hz)
      obtain ⟨b', k1, k2⟩ := g3 cs hcs
      exact ⟨b', k1, fun hel => by rw [k2 hel, add_plain', hei.size]⟩
    · simp at h
  · simp at h

theorem run_index_arr {T : TypeId → Option Ty} (hT : ∀ t y, T t = some y → tyOf P t = some y) {t e : TypeId} {y ye : Ty} (hy : T t = some y) {m : Nat} (hk : y.k = .array m e) (hye : T e = some ye) {n : Nat} (hn : n < m) {us : Array Value} {k : IntKind} (hfit : n * ye.size + ye.size ≤ us.size) (h1 : ye.k.agg = false → ye.size = 1) :
    (Instr.index t (.agg us) (.int k (n : Int))).run P w = .ok (valOf P e ((us.toList.drop (n * ye.size)).take ye.size)) w := by
  obtain ⟨i, d, hi⟩ := get_wf hT hy
  have hd := kOf_array (hk.symm.trans hi.k)
  subst hd
  obtain ⟨ei, ed, hei⟩ := get_wf hT hye
  have hs : sizeAt P e = ye.size := by simp [sizeAt, hei.info, hei.size]
  have hp := run_part (P := P) (w := w) hei.info hei.und us.toList (n * ye.size) (by rw [hs]; simp; omega) (fun ha => by rw [hs]; exact h1 (by rw [← aggAt_k hei]; exact ha))
  rw [hs] at hp
  simp only [Array.toArray_toList] at hp
  unfold Instr.index
  simp only [Sem.run_bind, asIntOf, Sem.run_pure, Result.andThen_ok, run_underlying hi.und]
  rw [if_pos (by omega)]
  simp only [Sem.run_bind, run_sizeOf hei.info, Result.andThen_ok, Int.toNat_natCast, ← hei.size]
  exact hp

theorem indexV_out {T : TypeId → Option Ty} (hT : ∀ t y, T t = some y → tyOf P t = some y) (hH : RepH w A bl H) {o : Oper} {t : TypeId} {x ix : Operand} (ho : o.op = .index t x ix) {v0 vi : V} (hr : RepV w A bl H v0 (a.eval x)) (hi : RepV w A bl H vi (a.eval ix)) {v : V} {H' : Hp} {k : Nat} (h : indexV T H t v0 vi = some (v, H', k)) : Out P a o w A bl H v H' := by
  have he : (execOp a.eval o).run P w = (do pure (Next.value (← Instr.index t (a.eval x) (a.eval ix))) : Sem Next).run P w := by simp [execOp, ho]
  unfold indexV at h
  split at h
  case h_2 => simp at h
  rename_i kn n
  split at h
  case isFalse => simp at h
  rename_i h0
  have hix := hi.int_inv
  rw [hix] at he
  obtain ⟨m, rfl⟩ := Int.eq_ofNat_of_zero_le h0
  simp only [Int.toNat_natCast] at h
  split at h
  case h_1 => simp at h
  rename_i y hy
  split at h
  · rename_i s hk
    split at h <;> simp only [Option.some.injEq, Prod.mk.injEq, reduceCtorEq] at h
    rename_i b hb
    obtain ⟨rfl, rfl, _⟩ := h
    rw [hr.str_inv] at he
    exact out_pure hH he (op_index_str hT hy hk hb) (.int _ _)
  · rename_i m' e xs hk
    split at h
    case isFalse => simp at h
    rename_i hlt
    split at h
    case h_2 => simp at h
    rename_i ye hye
    split at h
    case h_2 => simp at h
    rename_i l hl
    obtain ⟨h1, rfl⟩ := pureR_inv h
    obtain ⟨us, hus, hxl, hxr⟩ := hr.agg_inv
    obtain ⟨p1, p2, p3⟩ := part_len hl
    rw [hus] at he
    obtain ⟨ei, ed, hei⟩ := get_wf hT hye
    refine out_pure hH he (run_index_arr hT hy hk hye (n := m) (by omega) (by omega) (fun hk0 => by rw [← p3]; exact ofCells_one h1 hk0)) ?_
    refine ofCells_rep (P := P) (t := e) h1 ?_ (aggAt_k hei)
    subst p2
    exact RepL.take (RepL.drop ⟨by simpa using hxl, fun j x u hj hu => hxr j x u hj (by simpa using hu)⟩ _) _
  · simp at h

theorem op0_sound {T : TypeId → Option Ty} (hT : ∀ t y, T t = some y → tyOf P t = some y) (hH : RepH w A bl H) (hF : RepF w A bl H fr a.tmps) {own : Nat → Bool} {o : Oper} {v : V} {H' : Hp} {k : Nat} (h : op0 T own fr H o = some (v, H', k)) : Out P a o w A bl H v H' := by
  unfold op0 at h
  split at h
  · rename_i x ho
    split at h
    case h_2 => simp at h
    rename_i v0 hv0
    exact moveV_out hH (by simp [execOp, ho]) (opd_rep hF hv0) h
  · rename_i x ho
    split at h
    case h_2 => simp at h
    rename_i v0 hv0
    exact moveV_out hH (by simp [execOp, ho]) (opd_rep hF hv0) h
  · rename_i c x y ho
    split at h
    case h_2 => simp at h
    rename_i t hc
    obtain ⟨h1, rfl⟩ := pureR_inv h
    have hcv := (opd_rep hF hc).bool_inv
    refine Out.pure hH (r := if t then a.eval x else a.eval y) ?_ ?_
    · simp [execOp, ho, hcv, asBool]
    · cases t
      · exact opd_rep hF (by simpa using h1)
      · exact opd_rep hF (by simpa using h1)
  · rename_i t x ho
    split at h
    case h_2 => simp at h
    rename_i v0 hv0
    exact boxV_out hH ho (opd_rep hF hv0) h
  · rename_i t ho
    exact allocV_out hT hH ho h
  · rename_i t ps ho
    split at h
    case h_2 => simp at h
    rename_i l hl
    exact buildV_out hT hH hF ho hl h
  · rename_i t n ps ho
    split at h
    case h_2 => simp at h
    rename_i l hl
    exact buildSliceV_out hT hH hF ho hl h
  · rename_i t x ho
    split at h
    case h_2 => simp at h
    rename_i v0 hv0
    unfold loadR at h
    split at h
    case h_1 => simp at h
    rename_i y hy
    split at h <;> simp only [Option.some.injEq, Prod.mk.injEq, reduceCtorEq] at h
    rename_i v1 hv1
    obtain ⟨rfl, rfl, _⟩ := h
    obtain ⟨r, hr, hrep⟩ := loadV_run (P := P) hT hH hy hv1 (opd_rep hF hv0)
    exact out_pure hH (by simp [execOp, ho]) hr hrep
  · rename_i t x y ho
    split at h
    case h_2 => simp at h
    rename_i v0 v1 hv0 hv1
    unfold storeR at h
    split at h
    case h_1 => simp at h
    rename_i ty hty
    split at h <;> simp only [Option.some.injEq, Prod.mk.injEq, reduceCtorEq] at h
    rename_i hp' hhp
    obtain ⟨rfl, rfl, _⟩ := h
    obtain ⟨w', hr, q1, q2, q3⟩ := storeV_run (P := P) hT hH hty hhp (opd_rep hF hv0) (opd_rep hF hv1)
    exact ⟨undef, w', A, bl, .inr ⟨by simp [execOp, ho, hr], rfl⟩, .undef, q1, q2, q3⟩
  · rename_i x ho
    split at h
    case h_2 => simp at h
    rename_i v0 hv0
    exact nilCheckV_out hH ho (opd_rep hF hv0) h
  · rename_i op t x y ty ho
    split at h
    case h_2 => simp at h
    rename_i v0 v1 hv0 hv1
    obtain ⟨h1, rfl⟩ := pureR_inv h
    obtain ⟨r, hr, hrep⟩ := bin_run (P := P) hT h1 (opd_rep hF hv0) (opd_rep hF hv1) x y
    exact out_pure hH (by simp [execOp, ho]) hr hrep
  · rename_i op t x ho
    split at h
    case h_2 => simp at h
    rename_i v0 hv0
    obtain ⟨h1, rfl⟩ := pureR_inv h
    obtain ⟨r, hr, hrep⟩ := un_run (P := P) (w := w) h1 (opd_rep hF hv0)
    exact out_pure hH (by simp [execOp, ho]) hr hrep
  · rename_i s d x ho
    split at h
    case h_2 => simp at h
    rename_i v0 hv0
    obtain ⟨h1, rfl⟩ := pureR_inv h
    obtain ⟨r, hr, hrep⟩ := conv_run (P := P) (w := w) hT h1 (opd_rep hF hv0)
    exact out_pure hH (by simp [execOp, ho]) hr hrep
  · rename_i f first caps ho
    split at h
    case isFalse => simp at h
    rename_i hf
    split at h <;> simp only [Option.some.injEq, Prod.mk.injEq, reduceCtorEq] at h
    rename_i l hl
    obtain ⟨rfl, rfl, _⟩ := h
    obtain ⟨h1, h2⟩ := opdL_arr hF hl
    obtain rfl : first = #[] := Array.eq_empty_of_size_eq_zero hf
    exact Out.pure hH (by simp [execOp, ho, Instr.makeFunc]) (.fn f l _ h1 h2)
  · rename_i t n c ho
    split at h
    case h_2 => simp at h
    rename_i v0 v1 hv0 hv1
    exact makeSliceV_out hT hH ho (opd_rep hF hv0) (opd_rep hF hv1) h
  · rename_i t x lo hi mx ho
    split at h
    case h_2 => simp at h
    rename_i v0 lo' hi' mx' hv0 hlo hhi hmx
    exact sliceV_out hT hH (by simp [execOp, ho]) (opd_rep hF hv0) (bnd_map hF hlo) (bnd_map hF hhi) (bnd_map hF hmx) h
  · rename_i s x f ho
    split at h
    case h_2 => simp at h
    rename_i v0 hv0
    exact fieldAddrV_out hT hH ho (opd_rep hF hv0) h
  · rename_i s x f ho
    split at h
    case h_2 => simp at h
    rename_i v0 hv0
    exact fieldV_out hT hH ho (opd_rep hF hv0) h
  · rename_i t x ix ho
    split at h
    case h_2 => simp at h
    rename_i v0 v1 hv0 hv1
    exact indexAddrV_out hT hH ho (opd_rep hF hv0) (opd_rep hF hv1) h
  · rename_i t x ix ho
    split at h
    case h_2 => simp at h
    rename_i v0 v1 hv0 hv1
    exact indexV_out hT hH ho (opd_rep hF hv0) (opd_rep hF hv1) h
  · rename_i x i ho
    split at h
    case h_2 => simp at h
    rename_i vs hvs
    obtain ⟨h1, rfl⟩ := pureR_inv h
    obtain ⟨us, hus, hl, hr⟩ := (opd_rep hF hvs).tup_inv
    have hlt := (List.getElem?_eq_some_iff.1 h1).1
    refine Out.pure hH (r := us[i]'(by omega)) ?_ (hr i v _ h1 (by simp))
    simp [execOp, ho, Instr.extract, hus, show i < us.size by omega]
  · rename_i b args ts ho
    split at h
    case h_2 => simp at h
    rename_i l hl
    have he := run_call_builtin (P := P) (w := w) (a := a) ho
    obtain ⟨h1, h2⟩ := opdL_arr hF hl
    generalize hus : args.map a.eval = us at he h1 h2
    unfold bltn at h
    split at h
    · -- len
      split at h
      case h_2 => simp at h
      rename_i t x hts
      split at h <;> simp only [Option.some.injEq, Prod.mk.injEq, reduceCtorEq] at h
      rename_i n hn
      obtain ⟨rfl, rfl, _⟩ := h
      obtain ⟨u, rfl⟩ : ∃ u, us = #[u] := by
        obtain ⟨l⟩ := us
        match l, h1 with
        | [u], _ => exact ⟨u, rfl⟩
      have hts' : ts = #[t] := by apply Array.ext'; simpa using hts
      subst hts'
      exact out_pure (s := Builtin.len_ #[t] o.type #[u]) hH (by rw [he]; rfl) (lenV_run hT hn (h2 0 x u rfl (by simp)) _) (.int _ _)
    · -- append
      split at h
      case h_2 => simp at h
      rename_i t tx d s hts
      unfold appB at h
      split at h
      case h_2 => simp at h
      rename_i y yx hy hyx
      split at h
      case h_2 => simp at h
      rename_i e hk
      split at h
      case h_2 => simp at h
      rename_i ye hye
      split at h
      case isFalse => simp at h
      rename_i hc
      obtain ⟨c1, c2, c3⟩ := hc
      obtain ⟨u, u', rfl⟩ : ∃ u u', us = #[u, u'] := by
        obtain ⟨l⟩ := us
        match l, h1 with
        | [u, u'], _ => exact ⟨u, u', rfl⟩
      have hts' : ts = #[t, tx] := by apply Array.ext'; simpa using hts
      subst hts'
      obtain ⟨ix, dx, hix⟩ := get_wf hT hyx
      have htx : (∃ e', P.underlying tx = some (.slice e')) ∨ P.underlying tx = some .string := by
        unfold K.src at c3
        split at c3
        · rename_i e' hkx; exact .inl ⟨e', by rw [hix.und, kOf_slice (hkx.symm.trans hix.k)]⟩
        · rename_i hkx; exact .inr (by rw [hix.und, kOf_str (hkx.symm.trans hix.k)])
        · simp at c3
      obtain ⟨r, w', hr, bl', q1, q2, q3, q4⟩ := appendV_run (P := P) (ty := o.type) hT hH hy hk hye c1 c2 htx h (h2 0 d u rfl (by simp)) (h2 1 s u' rfl (by simp))
      exact out_of_run (s := Builtin.append_ #[t, tx] o.type #[u, u']) (by rw [he]; rfl) hr q1 q2 q3 q4
    · -- cap
      split at h
      case h_2 => simp at h
      rename_i t x hts
      unfold pureR at h
      split at h <;> simp only [Option.some.injEq, Prod.mk.injEq, reduceCtorEq] at h
      rename_i v1 hv1
      obtain ⟨rfl, rfl, _⟩ := h
      obtain ⟨u, rfl⟩ : ∃ u, us = #[u] := by
        obtain ⟨l⟩ := us
        match l, h1 with
        | [u], _ => exact ⟨u, rfl⟩
      have hts' : ts = #[t] := by apply Array.ext'; simpa using hts
      subst hts'
      unfold capV at hv1
      split at hv1
      case h_2 => simp at hv1
      rename_i sz nl xs
      split at hv1
      case h_2 => simp at hv1
      rename_i y hy
      split at hv1 <;> simp only [Option.some.injEq, reduceCtorEq] at hv1
      rename_i e hk
      subst hv1
      obtain ⟨i, dd, hi⟩ := get_wf hT hy
      have hd : dd = .slice e := kOf_slice (hk.symm.trans hi.k)
      subst hd
      have hcap : (Builtin.cap_ #[t] o.type #[u]).run P w = .ok (.int .i64 xs.length) w := by
        rcases (h2 0 _ u rfl (by simp)).sl_inv with ⟨rfl, rfl, _⟩ | ⟨b, cap, vs, rfl, _, _, hc, _⟩
        · simp [Builtin.cap_, run_underlying hi.und, goInt]
        · simp [Builtin.cap_, run_underlying hi.und, goInt, hc rfl]
      exact out_pure (s := Builtin.cap_ #[t] o.type #[u]) hH (by rw [he]; rfl) hcap (.int _ _)
    · -- max
      split at h
      case h_2 => simp at h
      rename_i x r
      split at h <;> simp only [Option.some.injEq, Prod.mk.injEq, reduceCtorEq] at h
      rename_i v1 hv1
      obtain ⟨rfl, rfl, _⟩ := h
      obtain ⟨u, us', rfl⟩ : ∃ u us', us = (u :: us').toArray := by
        obtain ⟨l⟩ := us
        match l, h1 with
        | u :: l, _ => exact ⟨u, l, rfl⟩
      obtain ⟨q, q1, q2⟩ := minMax_run (P := P) (gt := true) hv1 (h2 0 x u rfl (by simp)) (us := us') (by simpa using h1) (fun j x u hj hu => h2 (j + 1) x u (by simpa using hj) (by simpa using hu))
      exact out_pure (s := Builtin.max_ ts o.type (u :: us').toArray) hH (by rw [he]; rfl) (by simpa [Builtin.max_] using q1) q2
    · split at h
      case h_2 => simp at h
      rename_i x r
      split at h <;> simp only [Option.some.injEq, Prod.mk.injEq, reduceCtorEq] at h
      rename_i v1 hv1
      obtain ⟨rfl, rfl, _⟩ := h
      obtain ⟨u, us', rfl⟩ : ∃ u us', us = (u :: us').toArray := by
        obtain ⟨l⟩ := us
        match l, h1 with
        | u :: l, _ => exact ⟨u, l, rfl⟩
      obtain ⟨q, q1, q2⟩ := minMax_run (P := P) (gt := false) hv1 (h2 0 x u rfl (by simp)) (us := us') (by simpa using h1) (fun j x u hj hu => h2 (j + 1) x u (by simpa using hj) (by simpa using hu))
      exact out_pure (s := Builtin.min_ ts o.type (u :: us').toArray) hH (by rw [he]; rfl) (by simpa [Builtin.min_] using q1) q2
    · simp at h
  · simp at h
end
end Go.Ev
