/-
  EV, part C: each operation that is no call of a Go function does to a world what the abstract interpreter says.
-/
import Derived.Test.YtbilmkcdhodenaaDoorEvB
import Derived.Laws.Shifts
import Derived.Laws.Strings
import Derived.StringKeys
set_option linter.all false
set_option linter.unusedSimpArgs false
set_option linter.unusedVariables false
namespace Go.Ev

theorem cOfL_len : ∀ {l : List Value} {m : List C}, cOfL l = some m → m.length = l.length
  | [], m, h => by simp only [cOfL, Option.some.injEq] at h; subst h; rfl
  | v :: r, m, h => by
    simp only [cOfL] at h
    split at h <;> simp only [Option.some.injEq, reduceCtorEq] at h
    subst h
    simp [cOfL_len ‹_›]
theorem cOfL_rep {w : World} {A : Nat → Prop} : ∀ {l : List Value} {m : List C}, cOfL l = some m → ∀ (j : Nat) (x : C) (u : Value), m[j]? = some x → l[j]? = some u → RepC w A x u
  | [], m, h => by simp only [cOfL, Option.some.injEq] at h; subst h; intro j x u hj; simp at hj
  | v :: r, m, h => by
    simp only [cOfL] at h
    split at h <;> simp only [Option.some.injEq, reduceCtorEq] at h
    rename_i y l h1 h2
    subst h
    intro j x u hj hu
    cases j with
    | zero => simp only [List.getElem?_cons_zero, Option.some.injEq] at hj hu; subst hj; subst hu; exact cOf_rep h1
    | succ j => simp only [List.getElem?_cons_succ] at hj hu; exact cOfL_rep h2 j x u hj hu

theorem RepC.none_sz {w : World} {A : Nat → Prop} {n z : Nat} {nl : Option Bool} {t : Bool} {u : Value} (h : RepC w A (.sl n nl t []) u) : RepC w A (.sl z nl t []) u := by
  generalize hx : C.sl n nl t [] = x at h
  cases h with
  | slnil _ _ _ h1 => cases hx; exact .slnil _ _ _ h1
  | sl _ _ _ xs a cap vs g1 g2 g3 g4 g5 g6 g7 =>
    cases hx
    exact .sl _ _ _ [] a cap vs g1 g2 g3 g4 (by simp) (by simp) (by simp)
  | _ => cases hx
theorem RepC.less {w : World} {A : Nat → Prop} {n : Nat} {nl : Option Bool} {t : Bool} {xs : List (List C)} {u : Value} (h : RepC w A (.sl n nl t xs) u) : RepC w A (.sl n none false xs) u := by
  generalize hx : C.sl n nl t xs = x at h
  cases h with
  | slnil => cases hx; exact .slnil _ _ _ (by simp)
  | sl _ _ _ xs a cap vs g1 g2 g3 g4 g5 g6 g7 =>
    cases hx
    exact .sl _ _ _ _ a cap vs g1 (by simp) (by simp) g4 g5 g6 g7
  | _ => cases hx
theorem C.fix_rep {w : World} {A : Nat → Prop} {x : C} {u : Value} (z : Nat) (h : RepC w A x u) : RepC w A (x.fix z) u := by
  unfold C.fix
  split
  · split
    · split
      · exact h.none_sz
      · exact h
    · exact h
  · exact h
theorem C.weak_rep {w : World} {A : Nat → Prop} {x : C} {u : Value} (z : Nat) (h : RepC w A x u) : RepC w A (x.weak z) u := by
  unfold C.weak
  split
  · split
    · split
      · exact h.none_sz.less
      · exact h.less
    · exact h.less
  · exact h
/-- The same cells, but for what is told of nil slices. -/
inductive FixOf : List C → List C → Prop
  | nil : FixOf [] []
  | cons {x : C} {l m : List C} (z : Nat) : FixOf l m → FixOf (x :: l) (x.fix z :: m)
  | same {x : C} {l m : List C} : FixOf l m → FixOf (x :: l) (x :: m)
theorem FixOf.refl : ∀ l, FixOf l l
  | [] => .nil
  | _ :: l => .same (FixOf.refl l)
theorem FixOf.append {l m l' m' : List C} (h : FixOf l m) (h' : FixOf l' m') : FixOf (l ++ l') (m ++ m') := by
  induction h with
  | nil => exact h'
  | cons z _ ih => exact .cons z ih
  | same _ ih => exact .same ih
theorem FixOf.rows {l m : List C} (h : FixOf l m) : ∀ n, FixOf (List.replicate n l).flatten (List.replicate n m).flatten
  | 0 => .nil
  | n + 1 => by simp only [List.replicate_succ, List.flatten_cons]; exact h.append (h.rows n)
theorem FixOf.length {l m : List C} (h : FixOf l m) : m.length = l.length := by
  induction h with
  | nil => rfl
  | cons z _ ih => simp [ih]
  | same _ ih => simp [ih]
theorem fixTags_of : ∀ (tags : List Nat) (l : List C), FixOf l (fixTags tags l)
  | [], l => by simp only [fixTags]; exact .refl l
  | _ :: _, [] => .nil
  | z :: r, x :: l => .cons z (fixTags_of r l)
theorem FixOf.rep {w : World} {A : Nat → Prop} {l m : List C} (h : FixOf l m) : ∀ {vs : List Value}, (∀ (j : Nat) (x : C) (u : Value), l[j]? = some x → vs[j]? = some u → RepC w A x u) → ∀ (j : Nat) (x : C) (u : Value), m[j]? = some x → vs[j]? = some u → RepC w A x u := by
  induction h with
  | nil => intro vs _ j x u hj; simp at hj
  | cons z _ ih =>
    intro vs hv j x u hj hu
    cases vs with
    | nil => simp at hu
    | cons v vs =>
      cases j with
      | zero =>
        simp only [List.getElem?_cons_zero, Option.some.injEq] at hj hu
        subst hj; subst hu
        exact C.fix_rep z (hv 0 _ _ rfl rfl)
      | succ j => exact ih (fun j x u h1 h2 => hv (j + 1) x u h1 h2) j x u hj hu
  | same _ ih =>
    intro vs hv j x u hj hu
    cases vs with
    | nil => simp at hu
    | cons v vs =>
      cases j with
      | zero => exact hv 0 _ _ hj hu
      | succ j => exact ih (fun j x u h1 h2 => hv (j + 1) x u h1 h2) j x u hj hu

/-- What a type's row says. -/
structure TyIs (P : Program) (t : TypeId) (y : Ty) (i : TypeInfo) (d : TypeDesc) : Prop where
  info : P.info? t = some i
  und : P.underlying t = some d
  k : y.k = kOf P d
  size : y.size = i.size
  bytes : y.bytes = i.bytes
  eq : y.eq = eqOf P t
  zero : y.zero.length = y.size → ∃ z l, i.zero = some z ∧ cOfL z.cells.toList = some l ∧ FixOf l y.zero
  arr : ∀ n e, d = .array n e → ∃ j z lz l0, P.info? e = some j ∧ j.size = y.el.length ∧ i.zero = some z ∧ cOfL z.cells.toList = some lz ∧ lz = (List.replicate n l0).flatten ∧ FixOf l0 y.el
  zero' : (∀ n e, d ≠ .array n e) → y.zero.length = y.size
  flds : fieldsOk P d = true

theorem tyOf_is {P : Program} {t : TypeId} {y : Ty} (h : tyOf P t = some y) : ∃ i d, TyIs P t y i d := by
  unfold tyOf at h
  split at h
  case h_2 => simp at h
  rename_i i d hi hd
  split at h
  · rename_i n e
    split at h
    case h_2 => simp at h
    rename_i j z hj hz
    split at h
    case h_2 => simp at h
    rename_i ze hze
    split at h
    case h_2 => simp at h
    rename_i l lz hl hlz
    split at h
    case isFalse => simp at h
    rename_i hc
    obtain ⟨c1, c2, c3⟩ := hc
    have c3 := oneL_eq c3
    simp only [Option.some.injEq] at h
    subst h
    refine ⟨i, _, ⟨hi, hd, rfl, rfl, rfl, rfl, ?_, ?_, fun hne => absurd rfl (hne _ _), rfl⟩⟩
    · intro h0
      simp only [List.length_nil] at h0
      have : lz = [] := by
        rw [c3]; apply List.eq_nil_of_length_eq_zero
        simp [List.length_flatten]; rw [← c2]; omega
      exact ⟨z, _, hz, hlz, by rw [this]; exact .nil⟩
    · intro n' e' he
      cases he
      exact ⟨j, z, lz, l, hj, by rw [(fixTags_of _ l).length]; exact c1, hz, hlz, c3, fixTags_of _ l⟩
  · rename_i hna
    split at h
    case h_2 => simp at h
    rename_i z hz
    split at h
    case h_2 => simp at h
    rename_i l hl
    split at h
    case isFalse => simp at h
    rename_i hlen
    simp only [Option.some.injEq] at h
    subst h
    exact ⟨i, d, ⟨hi, hd, rfl, rfl, rfl, rfl, fun _ => ⟨z, l, hz, hl, fixTags_of _ l⟩, fun n e he => absurd he (hna n e), fun _ => ((fixTags_of _ l).length).trans hlen.1, hlen.2⟩⟩

theorem kOf_slice {P : Program} {d : TypeDesc} {e : TypeId} (h : K.slice e = kOf P d) : d = .slice e := by
  unfold kOf at h; split at h <;> simp_all
theorem kOf_array {P : Program} {d : TypeDesc} {n : Nat} {e : TypeId} (h : K.array n e = kOf P d) : d = .array n e := by
  unfold kOf at h; split at h <;> simp_all
theorem kOf_str {P : Program} {d : TypeDesc} (h : K.str = kOf P d) : d = .string := by
  unfold kOf at h; split at h <;> simp_all
theorem kOf_bool {P : Program} {d : TypeDesc} (h : K.bool = kOf P d) : d = .bool := by
  unfold kOf at h; split at h <;> simp_all
theorem kOf_int {P : Program} {d : TypeDesc} {k : IntKind} (h : K.int k = kOf P d) : d = .int k := by
  unfold kOf at h; split at h <;> simp_all
theorem kOf_ptr {P : Program} {d : TypeDesc} {e : TypeId} (h : K.ptr e = kOf P d) : d = .pointer e := by
  unfold kOf at h; split at h <;> simp_all
theorem kOf_struct {P : Program} {d : TypeDesc} {fs : List (Nat × Nat × Bool)} (h : K.struct fs = kOf P d) : ∃ l, d = .struct l ∧ fs = l.toList.map fun f => (f.offset, sizeAt P f.type, aggAt P f.type) := by
  unfold kOf at h; split at h <;> simp_all

theorem kOf_agg {P : Program} {d : TypeDesc} : (kOf P d).agg = (match d with | .struct _ | .array _ _ => true | _ => false) := by
  cases d <;> rfl

theorem run_isAgg {P : Program} {t : TypeId} {d : TypeDesc} (h : P.underlying t = some d) (w : World) : (isAgg t).run P w = .ok (kOf P d).agg w := by
  rw [kOf_agg]
  unfold isAgg
  rw [Sem.run_bind, run_underlying h w]
  simp only [Result.andThen_ok]
  cases d <;> rfl
theorem run_sizeOf {P : Program} {t : TypeId} {i : TypeInfo} (h : P.info? t = some i) (w : World) : (sizeOf t).run P w = .ok i.size w := by
  simp [sizeOf, typeInfo, h]
theorem run_isAggAt {P : Program} {t : TypeId} {d : TypeDesc} (h : P.underlying t = some d) (w : World) : (isAgg t).run P w = .ok (aggAt P t) w := by
  rw [run_isAgg h, kOf_agg]
  unfold aggAt
  rw [h]
  cases d <;> rfl
theorem run_sizeAt {P : Program} {t : TypeId} {i : TypeInfo} (h : P.info? t = some i) (w : World) : (sizeOf t).run P w = .ok (sizeAt P t) w := by
  rw [run_sizeOf h]; simp [sizeAt, h]

section
variable {P : Program} {w : World} {A : Nat → Prop} {bl : Bl} {H : Hp} {fr : Fr} {a : Act}

/-- What an operation comes to. -/
def Out (P : Program) (a : Act) (o : Oper) (w : World) (A : Nat → Prop) (bl : Bl) (H : Hp) (v : V) (H' : Hp) : Prop :=
  ∃ r w' A' bl', ((execOp a.eval o).run P w = .ok (.value r) w' ∨ ((execOp a.eval o).run P w = .ok .skip w' ∧ r = undef)) ∧
    RepV w' A' bl' H' v r ∧ RepH w' A' bl' H' ∧ Le w A bl H w' A' bl' H' ∧ Evo w A (Liv bl H) w' A' (Liv bl' H')

theorem Out.pure {o : Oper} {v : V} (hH : RepH w A bl H) {r : Value} (h : (execOp a.eval o).run P w = .ok (.value r) w) (hv : RepV w A bl H v r) : Out P a o w A bl H v H :=
  ⟨r, w, A, bl, .inl h, hv, hH, Le.refl _ _ _ _, Evo.refl _ _ _⟩

theorem RepV.one {x : V} {u : Value} (h : RepV w A bl H x u) (hx : x.one = true) : u.oneCell' = true ∧ u.cells = #[u] := by
  cases h <;> simp [V.one] at hx <;> try (constructor <;> rfl)
  rename_i x hc
  cases hc <;> exact ⟨rfl, rfl⟩

/-- A value's cells, those of its text. -/
theorem RepV.cells {v : V} {r : Value} (h : RepV w A bl H v r) (hv : v.cells.all V.one = true) :
    r.cells.size = v.cells.length ∧ (∀ (j : Nat) (x : V) (u : Value), v.cells[j]? = some x → r.cells[j]? = some u → RepV w A bl H x u) ∧ (∀ u ∈ r.cells, u.oneCell' = true) := by
  by_cases ha : ∃ xs, v = .agg xs
  · obtain ⟨xs, rfl⟩ := ha
    cases h with
    | agg xs vs h1 h2 =>
      refine ⟨h1.symm, h2, fun u hu => ?_⟩
      simp only [V.cells, Value.cells] at hv hu
      obtain ⟨j, hj, rfl⟩ := Array.mem_iff_getElem.1 hu
      have hj' : j < xs.length := by omega
      have := h2 j xs[j] vs[j] (by simp [hj']) (by simp [hj])
      exact (RepV.one this (List.all_eq_true.1 hv _ (List.getElem_mem hj'))).1
  · have e : v.cells = [v] := by
      cases v <;> first | rfl | exact absurd ⟨_, rfl⟩ ha
    rw [e] at hv ⊢
    have h1 : v.one = true := by simpa using hv
    obtain ⟨g1, g2⟩ := RepV.one h h1
    rw [g2]
    refine ⟨rfl, fun j x u hj hu => ?_, fun u hu => ?_⟩
    · cases j with
      | zero => simp at hj hu; subst hj; subst hu; exact h
      | succ j => simp at hj
    · simp at hu; subst hu; exact g1

theorem RepV.int_inv {k : IntKind} {n : Int} {r : Value} (h : RepV w A bl H (.c (.int k n)) r) : r = .int k n := by
  cases h with | c _ _ h => cases h; rfl
theorem RepV.bool_inv {b : Bool} {r : Value} (h : RepV w A bl H (.c (.bool b)) r) : r = .bool b := by
  cases h with | c _ _ h => cases h; rfl
theorem RepV.str_inv {s : List UInt8} {r : Value} (h : RepV w A bl H (.c (.str s)) r) : r = .string ⟨s.toArray⟩ := by
  cases h with | c _ _ h => cases h; rfl
theorem RepV.agg_inv {xs : List V} {r : Value} (h : RepV w A bl H (.agg xs) r) : ∃ vs, r = .agg vs ∧ xs.length = vs.size ∧ ∀ (j : Nat) (x : V) (u : Value), xs[j]? = some x → vs[j]? = some u → RepV w A bl H x u := by
  cases h with | agg _ vs h1 h2 => exact ⟨vs, rfl, h1, h2⟩
theorem RepV.tup_inv {xs : List V} {r : Value} (h : RepV w A bl H (.tup xs) r) : ∃ vs, r = .tuple vs ∧ xs.length = vs.size ∧ ∀ (j : Nat) (x : V) (u : Value), xs[j]? = some x → vs[j]? = some u → RepV w A bl H x u := by
  cases h with | tup _ vs h1 h2 => exact ⟨vs, rfl, h1, h2⟩
theorem RepV.fp_inv {cs : List C} {r : Value} (h : RepV w A bl H (.fp cs) r) : ∃ a, r = .pointer (some a) ∧ a.spot = none ∧ ∀ (j : Nat) (x : C), cs[j]? = some x → A a.block ∧ ∃ u, w.cell? ⟨a.block, a.off + j, none⟩ = some u ∧ RepC w A x u := by
  cases h with | fp _ a h1 h2 => exact ⟨a, rfl, h1, h2⟩
theorem RepV.ptr_inv {i ep el o : Nat} {r : Value} (h : RepV w A bl H (.ptr i ep el o) r) : ∃ a, r = .pointer (some a) ∧ i < H.length ∧ (∀ z e xs, H[i]? = some (.mem z e xs) → ep ≤ e) ∧
      (∀ cs, H[i]? = some (.box cs) → ∃ b, bl i = some (b, 0) ∧ (el = 0 → a = ⟨b, o, none⟩)) ∧
      (∀ z xs, H[i]? = some (.mem z ep xs) → ∃ b d, bl i = some (b, d) ∧ a = ⟨b, d + el * z + o, none⟩) := by
  cases h with | ptr _ _ _ _ a h1 h2 h3 h4 => exact ⟨a, rfl, h1, h2, h3, h4⟩
theorem RepV.buf_inv {i ep off len : Nat} {r : Value} (h : RepV w A bl H (.buf i ep off len) r) : ∃ a l cap, r = .slice a l cap ∧ i < H.length ∧ (∀ z e xs, H[i]? = some (.mem z e xs) → ep ≤ e) ∧
      (∀ z xs, H[i]? = some (.mem z ep xs) → off + len ≤ xs.length ∧ l = len ∧ (len ≤ cap ∧ (cap ≠ 0 → ∀ a0, a = some a0 → a0.spot = none) ∧ (a = none → cap = 0)) ∧
        (cap ≠ 0 → ∃ b d n, bl i = some (b, d) ∧ a = some ⟨b, d + off * z, none⟩ ∧ rowOf w b = some n ∧ d + (off + cap) * z ≤ n)) := by
  cases h with | buf _ _ _ _ a l cap h1 h2 h3 => exact ⟨a, l, cap, rfl, h1, h2, h3⟩
theorem RepV.sl_inv {sz : Nat} {nl : Option Bool} {ti : Bool} {xs : List (List C)} {r : Value} (h : RepV w A bl H (.c (.sl sz nl ti xs)) r) :
    (r = .slice none 0 0 ∧ xs = [] ∧ nl ≠ some false) ∨ ∃ (a : Addr) (cap : Nat) (vs : Nat → Nat → Value), r = .slice (some a) xs.length cap ∧ (cap ≠ 0 → a.spot = none) ∧ nl ≠ some true ∧ (ti = true → cap = xs.length) ∧ xs.length ≤ cap ∧ (∀ cs ∈ xs, cs.length = sz) ∧
      (∀ (i j : Nat) (cs : List C) (x : C), xs[i]? = some cs → cs[j]? = some x → A a.block ∧ w.cell? ⟨a.block, a.off + i * sz + j, none⟩ = some (vs i j)) ∧
      (∀ (i j : Nat) (cs : List C) (x : C), xs[i]? = some cs → cs[j]? = some x → RepC w A x (vs i j)) := by
  cases h with | c _ _ h =>
  cases h with
  | slnil _ _ _ h => exact .inl ⟨rfl, rfl, h⟩
  | sl _ _ _ _ a cap vs h1 h2 h3 h4 h5 h6 h7 => exact .inr ⟨a, cap, vs, rfl, h1, h2, h3, h4, h5, h6, h7⟩

theorem RepV.int (k : IntKind) (n : Int) : RepV w A bl H (.c (.int k n)) (.int k n) := .c _ _ (.int _ _)
theorem RepV.bool (b : Bool) : RepV w A bl H (.c (.bool b)) (.bool b) := .c _ _ (.bool _)
theorem RepV.str (s : List UInt8) : RepV w A bl H (.c (.str s)) (.string ⟨s.toArray⟩) := .c _ _ (.str _)

/-! ## numbers, texts -/
theorem intBin_run {op : BinOp} {k : IntKind} {x y : Int} {c : C} (ho : op ≠ .shl ∧ op ≠ .shr) (h : intBin op k x y = some c) (t : TypeId) : ∃ r, (binOp op t (.int k x) (.int k y)).run P w = .ok r w ∧ RepC w A c r := by
  cases op <;> simp only [intBin, Option.some.injEq, reduceCtorEq] at h <;> try contradiction
  all_goals try (subst h)
  all_goals try (split at h <;> simp only [Option.some.injEq, reduceCtorEq] at h <;> subst h)
  all_goals first
    | exact ⟨_, by simp [binOp, Op.intArith, Op.intDiv, Op.intCmp, *]; try rfl, .int _ _⟩
    | exact ⟨_, by simp [binOp, Op.intArith, Op.intDiv, Op.intCmp, *]; try rfl, .bool _⟩
    | (refine ⟨_, ?_, .int _ _⟩; simp [binOp, Op.intBits, Go.bits])

theorem strBin_run {op : BinOp} {x y : List UInt8} {c : C} (h : strBin op x y = some c) (t : TypeId) : ∃ r, (binOp op t (.string ⟨x.toArray⟩) (.string ⟨y.toArray⟩)).run P w = .ok r w ∧ RepC w A c r := by
  have tl := ByteArray.toList_mk
  have sz : ∀ l : List UInt8, (ByteArray.mk l.toArray).size = l.length := fun l => by simp [ByteArray.size]
  cases op <;> simp only [strBin, Option.some.injEq, reduceCtorEq] at h
  case add =>
    split at h <;> simp only [Option.some.injEq, reduceCtorEq] at h
    subst h
    rename_i hlt
    refine ⟨.string (⟨x.toArray⟩ ++ ⟨y.toArray⟩), ?_, ?_⟩
    · have : ¬ (IntKind.i64.max < ((x.length + y.length : Nat) : Int)) := by simp [IntKind.max, IntKind.signed, IntKind.bits]; omega
      simp only [binOp, Op.stringOp, sz]
      rw [if_neg (by simpa using this)]
      rfl
    · have e : (ByteArray.mk x.toArray ++ ByteArray.mk y.toArray) = ⟨(x ++ y).toArray⟩ := by
        apply ByteArray.ext
        simp
      rw [e]; exact .str _
  all_goals (subst h; refine ⟨_, ?_, .bool _⟩; simp [binOp, Op.stringOp, tl])

/-! ## equality -/
theorem bytes_beq (a b : List UInt8) : ((ByteArray.mk a.toArray) == (ByteArray.mk b.toArray)) = (a == b) := by
  show (a.toArray == b.toArray) = _
  simp
def TypeDesc.lk : TypeDesc → Option LK
  | .bool => some .bool
  | .int _ => some .int
  | .string => some .str
  | _ => none
theorem eqC_run {k : LK} {x y : C} {r : Bool} {u v : Value} (h : eqC k x y = some r) (hx : RepC w A x u) (hy : RepC w A y v) {d : Nat} {t : TypeId} {td : TypeDesc} (ht : P.underlying t = some td)
    (hk : TypeDesc.lk td = some k) : (Op.equalIn (d + 1) t u v).run P w = .ok r w := by
  unfold eqC at h
  split at h
  · split at h <;> simp only [Option.some.injEq, reduceCtorEq] at h
    subst h
    cases hx; cases hy
    unfold TypeDesc.lk at hk
    split at hk <;> simp at hk
    rename_i hkk _ _
    simp [Op.equalIn, run_underlying ht, hkk]
  · simp only [Option.some.injEq] at h
    subst h
    cases hx; cases hy
    unfold TypeDesc.lk at hk
    split at hk <;> simp at hk
    simp [Op.equalIn, run_underlying ht]
  · simp only [Option.some.injEq] at h
    subst h
    cases hx; cases hy
    unfold TypeDesc.lk at hk
    split at hk <;> simp at hk
    simp [Op.equalIn, run_underlying ht, bytes_beq]
  · simp at h

theorem eqL_cons {k : LK} {ks : List LK} {xs ys : List V} {r : Bool} (h : eqL (k :: ks) xs ys = some r) :
    ∃ x y xs' ys' a b, xs = .c x :: xs' ∧ ys = .c y :: ys' ∧ eqC k x y = some a ∧ eqL ks xs' ys' = some b ∧ r = (a && b) := by
  cases xs with
  | nil => simp [eqL] at h
  | cons x xs => cases ys with
    | nil => cases x <;> simp [eqL] at h
    | cons y ys =>
      cases x <;> cases y <;> simp only [eqL, reduceCtorEq] at h
      split at h <;> simp only [Option.some.injEq, reduceCtorEq] at h
      exact ⟨_, _, _, _, _, _, rfl, rfl, ‹_›, ‹_›, h.symm⟩
theorem eqL_app : ∀ {k1 k2 : List LK} {xs ys : List V} {r : Bool}, eqL (k1 ++ k2) xs ys = some r →
    ∃ r1 r2, eqL k1 (xs.take k1.length) (ys.take k1.length) = some r1 ∧ eqL k2 (xs.drop k1.length) (ys.drop k1.length) = some r2 ∧ r = (r1 && r2)
  | [], k2, xs, ys, r, h => ⟨true, r, by simp [eqL], by simpa using h, by simp⟩
  | k :: k1, k2, xs, ys, r, h => by
    obtain ⟨x, y, xs, ys, a, b, rfl, rfl, ha, hb, rfl⟩ := eqL_cons h
    obtain ⟨r1, r2, h1, h2, rfl⟩ := eqL_app hb
    refine ⟨a && r1, r2, ?_, ?_, by rw [Bool.and_assoc]⟩
    · simp only [List.length_cons, List.take_succ_cons, eqL, ha, h1]
    · simpa using h2
theorem eqL_len : ∀ {k : List LK} {xs ys : List V} {r : Bool}, eqL k xs ys = some r → xs.length = k.length ∧ ys.length = k.length
  | [], xs, ys, r, h => by
    cases xs <;> cases ys <;> simp_all [eqL]
  | k :: ks, xs, ys, r, h => by
    obtain ⟨x, y, xs, ys, a, b, rfl, rfl, _, hb, _⟩ := eqL_cons h
    have := eqL_len hb
    simp [this]

theorem appAll_len {α β : Type} {f : β → Option (List α)} {n : β → Nat} : ∀ {l : List β} {r : List α}, (∀ x ∈ l, ∀ s, f x = some s → s.length = n x) → appAll (l.map f) = some r → r.length = (l.map n).sum
  | [], r, _, h => by simp [appAll] at h; subst h; rfl
  | x :: l, r, hf, h => by
    simp only [List.map_cons, appAll] at h
    split at h <;> simp only [Option.some.injEq, reduceCtorEq] at h
    subst h
    rename_i a b ha hb
    simp [hf x (by simp) a ha, appAll_len (fun y hy => hf y (by simp [hy])) hb]
theorem laidOut_sum : ∀ {l : List Field} {o n : Nat}, laidOut P o l n = true → n = o + (l.map fun f => sizeAt P f.type).sum
  | [], o, n, h => by simp [laidOut] at h; simp [h]
  | f :: l, o, n, h => by
    simp [laidOut] at h
    have := laidOut_sum h.2
    simp; omega
theorem eqAt_len : ∀ {d : Nat} {t : TypeId} {l : List LK}, eqAt P d t = some l → l.length = sizeAt P t
  | 0, t, l, h => by simp [eqAt] at h
  | d + 1, t, l, h => by
    unfold eqAt at h
    split at h
    · split at h <;> simp at h; subst h; simp [*]
    · split at h <;> simp at h; subst h; simp [*]
    · split at h <;> simp at h; subst h; simp [*]
    · split at h
      · rename_i hc
        have := appAll_len (n := fun f : Field => sizeAt P f.type) (fun f _ s hs => eqAt_len hs) h
        rw [this]
        have := laidOut_sum hc.2.1
        omega
      · simp at h
    · simp at h

/-- A value's cells, held by a list of the machine's. -/
def RepL (w : World) (A : Nat → Prop) (bl : Bl) (H : Hp) (xs : List V) (us : List Value) : Prop :=
  xs.length = us.length ∧ ∀ (j : Nat) (x : V) (u : Value), xs[j]? = some x → us[j]? = some u → RepV w A bl H x u
theorem RepL.drop {xs : List V} {us : List Value} (h : RepL w A bl H xs us) (n : Nat) : RepL w A bl H (xs.drop n) (us.drop n) :=
  ⟨by simp [h.1], fun j x u hj hu => h.2 (n + j) x u (by simpa using hj) (by simpa using hu)⟩
theorem RepL.take {xs : List V} {us : List Value} (h : RepL w A bl H xs us) (n : Nat) : RepL w A bl H (xs.take n) (us.take n) :=
  ⟨by simp [h.1], fun j x u hj hu => h.2 j x u (by simp only [List.getElem?_take] at hj; split at hj <;> simp_all) (by simp only [List.getElem?_take] at hu; split at hu <;> simp_all)⟩

/-- The value that some cells are, at a type. -/
def valOf (P : Program) (t : TypeId) (us : List Value) : Value := if aggAt P t then .agg us.toArray else us.headD undef
theorem run_part {t : TypeId} {i : TypeInfo} {d : TypeDesc} (hi : P.info? t = some i) (hd : P.underlying t = some d) (us : List Value) (off : Nat) (h : off + sizeAt P t ≤ us.length) (h1 : aggAt P t = false → sizeAt P t = 1) :
    (Go.part t us.toArray off).run P w = .ok (valOf P t ((us.drop off).take (sizeAt P t))) w := by
  unfold Go.part
  rw [Sem.run_bind, run_isAggAt hd]
  simp only [Result.andThen_ok]
  unfold valOf
  cases ha : aggAt P t with
  | true =>
    simp only [if_true, Sem.run_bind, run_sizeAt hi, Result.andThen_ok]
    simp
  | false =>
    have h2 := h1 ha
    rw [h2] at h ⊢
    have hlt : off < us.length := by omega
    simp only [Bool.false_eq_true, if_false]
    have e : us.toArray[off]? = some us[off] := by simp [hlt]
    rw [e]
    simp [List.take_one, hlt]

theorem run_fields {D n : Nat} {total : Nat} {xs ys : List V} {us vs : List Value} (hx : RepL w A bl H xs us) (hy : RepL w A bl H ys vs) (hxt : xs.length = total) (hyt : ys.length = total)
    (ih : ∀ {t : TypeId} {l : List LK}, eqAt P n t = some l → ∀ {xs ys : List V} {us vs : List Value} {r : Bool}, eqL l xs ys = some r → RepL w A bl H xs us → RepL w A bl H ys vs →
      (Op.equalIn D t (valOf P t us) (valOf P t vs)).run P w = .ok r w) :
    ∀ (fs : List Field) (off : Nat) (l : List LK) (r : Bool), laidOut P off fs total = true → (fs.all fun f => f.name != "_") = true → appAll (fs.map fun f => eqAt P n f.type) = some l →
      eqL l (xs.drop off) (ys.drop off) = some r →
      (forIn (m := Sem) fs ((none, ()) : Option Bool × Unit) fun f _ =>
            if f.name ≠ "_" then do
              let x ← Go.part f.type us.toArray f.offset
              let y ← Go.part f.type vs.toArray f.offset
              let b ← Op.equalIn D f.type x y
              if (!b) = true then pure (ForInStep.done (some false, ())) else pure (ForInStep.yield (none, ()))
            else pure (ForInStep.yield (none, ()))).run P w = .ok (if r then (none, ()) else (some false, ())) w
  | [], off, l, r, h1, h2, h3, h4 => by
    simp [appAll] at h3
    subst h3
    simp only [laidOut, beq_iff_eq] at h1
    subst h1
    have e1 : xs.drop off = [] := by simp [hxt]
    have e2 : ys.drop off = [] := by simp [hyt]
    rw [e1, e2] at h4
    simp [eqL] at h4
    subst h4
    rfl
  | f :: fs, off, l, r, h1, h2, h3, h4 => by
    simp only [laidOut, Bool.and_eq_true, beq_iff_eq] at h1
    obtain ⟨h1a, h1b⟩ := h1
    simp only [List.all_cons, Bool.and_eq_true] at h2
    obtain ⟨h2a, h2b⟩ := h2
    simp only [List.map_cons, appAll] at h3
    split at h3 <;> simp only [Option.some.injEq, reduceCtorEq] at h3
    rename_i la lb hla hlb
    subst h3
    obtain ⟨r1, r2, g1, g2, rfl⟩ := eqL_app h4
    have hlen : la.length = sizeAt P f.type := eqAt_len hla
    have hfit := eqL_len g1
    have hfits : off + sizeAt P f.type ≤ total := by
      have := laidOut_sum h1b; omega
    have hs : ∃ i d, P.info? f.type = some i ∧ P.underlying f.type = some d ∧ (aggAt P f.type = false → sizeAt P f.type = 1) := by
      cases n with
      | zero => simp [eqAt] at hla
      | succ n =>
        unfold eqAt at hla
        split at hla
        · split at hla <;> simp at hla; exact ⟨_, _, ‹_›, ‹_›, fun _ => ‹_›⟩
        · split at hla <;> simp at hla; exact ⟨_, _, ‹_›, ‹_›, fun _ => ‹_›⟩
        · split at hla <;> simp at hla; exact ⟨_, _, ‹_›, ‹_›, fun _ => ‹_›⟩
        · rename_i ht; exact ⟨_, _, ‹_›, ht, fun h => by simp [aggAt, ht] at h⟩
        · simp at hla
    obtain ⟨i, d, hi, hd, hone⟩ := hs
    have px := run_part (P := P) (w := w) hi hd us f.offset (by have := hx.1; omega) hone
    have py := run_part (P := P) (w := w) hi hd vs f.offset (by have := hy.1; omega) hone
    rw [hlen] at g1 g2
    have hE := ih hla g1 ((hx.drop off).take _) ((hy.drop off).take _)
    rw [h1a] at px py
    have hne : f.name ≠ "_" := by simpa using h2a
    simp only [List.forIn_cons]
    rw [if_pos hne]
    simp only [Sem.run_bind, h1a, px, py, Result.andThen_ok, hE]
    cases r1 with
    | false => simp
    | true =>
      simp only [Bool.not_true, Bool.false_eq_true, if_false, Sem.run_pure, Result.andThen_ok, Bool.true_and]
      have := run_fields hx hy hxt hyt ih fs (off + sizeAt P f.type) lb r2 h1b h2b hlb (by simpa [List.drop_drop] using g2)
      exact this

theorem eqL_run : ∀ (n : Nat) {t : TypeId} {l : List LK}, eqAt P n t = some l → ∀ {D : Nat}, n ≤ D → ∀ {xs ys : List V} {us vs : List Value} {r : Bool}, eqL l xs ys = some r → RepL w A bl H xs us → RepL w A bl H ys vs →
    (Op.equalIn D t (valOf P t us) (valOf P t vs)).run P w = .ok r w := by
  intro n
  induction n with
  | zero => intro t l h; simp [eqAt] at h
  | succ n ihn =>
    intro t l h D hD xs ys us vs r he hx hy
    obtain ⟨D, rfl⟩ : ∃ m, D = m + 1 := ⟨D - 1, by omega⟩
    have scalar : ∀ {k : LK} {td : TypeDesc}, l = [k] → P.underlying t = some td → TypeDesc.lk td = some k → aggAt P t = false → (Op.equalIn (D + 1) t (valOf P t us) (valOf P t vs)).run P w = .ok r w := by
      intro k td hl ht hk ha
      subst hl
      obtain ⟨x, y, xs, ys, a, b, rfl, rfl, h1, h2, rfl⟩ := eqL_cons he
      have := eqL_len h2
      obtain rfl : xs = [] := List.eq_nil_of_length_eq_zero this.1
      obtain rfl : ys = [] := List.eq_nil_of_length_eq_zero this.2
      simp [eqL] at h2
      subst h2
      obtain ⟨hx1, hx2⟩ := hx
      obtain ⟨hy1, hy2⟩ := hy
      obtain ⟨u, rfl⟩ : ∃ u, us = [u] := by
        match us, hx1 with
        | [u], _ => exact ⟨u, rfl⟩
      obtain ⟨v, rfl⟩ : ∃ v, vs = [v] := by
        match vs, hy1 with
        | [u], _ => exact ⟨u, rfl⟩
      have rx := hx2 0 _ _ rfl rfl
      have ry := hy2 0 _ _ rfl rfl
      cases rx with | c _ _ rx =>
      cases ry with | c _ _ ry =>
      simp only [valOf, ha, Bool.false_eq_true, if_false, List.headD_cons, Bool.and_true]
      exact eqC_run h1 rx ry ht hk
    have hall := h
    unfold eqAt at h
    split at h
    · rename_i ht; split at h <;> simp at h; exact scalar h.symm ht rfl (by simp [aggAt, ht])
    · rename_i ht; split at h <;> simp at h; exact scalar h.symm ht rfl (by simp [aggAt, ht])
    · rename_i ht; split at h <;> simp at h; exact scalar h.symm ht rfl (by simp [aggAt, ht])
    · rename_i i0 fs hi ht
      split at h
      case isFalse => simp at h
      rename_i hc
      obtain ⟨c1, c2, c3⟩ := hc
      have ha : aggAt P t = true := by simp [aggAt, ht]
      have hlen := eqL_len he
      have hl : l.length = sizeAt P t := eqAt_len hall
      simp only [valOf, ha, if_true]
      rw [Op.equalIn]
      simp only [Sem.run_bind, run_underlying ht, Result.andThen_ok, run_program, c1, Bool.false_eq_true, if_false]
      have := run_fields (P := P) (D := D) (n := n) (total := sizeAt P t) hx hy (by omega) (by omega) (fun h => ihn h (by omega)) fs.toList 0 l r c2 c3 h (by simpa using he)
      rw [← Array.forIn_toList, this]
      cases r <;> rfl
    · simp at h

theorem eqGuard_plain {op : BinOp} {t : TypeId} {x y : Operand} {u v : Value} (h1 : ¬ (u = .nilIface ∧ v = .nilIface)) (h2 : ¬ ((∃ xs, u = .agg xs) ∧ ∃ ys, v = .agg ys)) : (eqGuard op t x y u v).run P w = .ok () w := by
  have key : ∀ z : Sem Unit, z = (match (generalizing := false) u, v with
      | .nilIface, .nilIface => do
        if (x matches .const _) || (y matches .const _) then pure () else
          if ← Op.eqGuardIn Op.maxDepth t u v then unsupported (.noEntry "binop/eql: two nil values of an interface type with methods, neither of them the literal nil")
      | .agg _, .agg _ => do
        if !(← program).eqGuardType (← program).depth t then pure () else
          if ← Op.eqGuardIn Op.maxDepth t u v then unsupported (.noEntry "binop/eql: two nil values of an interface type with methods, in a part of a struct or an array")
      | _, _ => pure ()) → z.run P w = .ok () w := by
    intro z hz
    subst hz
    split
    · exact absurd ⟨rfl, rfl⟩ h1
    · exact absurd ⟨⟨_, rfl⟩, ⟨_, rfl⟩⟩ h2
    · rfl
  cases op <;> first | rfl | exact key _ rfl

theorem eqGuard_agg {op : BinOp} {t : TypeId} {x y : Operand} {us vs : Array Value} (h : P.eqGuardType P.depth t = false) : (eqGuard op t x y (.agg us) (.agg vs)).run P w = .ok () w := by
  cases op <;> first | rfl | simp [eqGuard, h]

theorem run_eq {t : TypeId} {u v : Value} {r : Bool} (hu : ∀ k n, u ≠ .int k n) (hs : ∀ s, u ≠ .string s) (hf : ∀ k n, u ≠ .float k n) (hc : ∀ k n m, u ≠ .complex k n m) (h : (Op.equalIn Op.maxDepth t u v).run P w = .ok r w) :
    (binOp .eql t u v).run P w = .ok (.bool r) w ∧ (binOp .neq t u v).run P w = .ok (.bool (!r)) w := by
  constructor
  · unfold binOp
    split <;> first | (exfalso; simp_all; done) | skip
    all_goals first | (simp [Op.equal, h]; done) | (simp_all; done)
  · unfold binOp
    split <;> first | (exfalso; simp_all; done) | skip
    all_goals first | (simp [Op.equal, h]; done) | (simp_all; done)

theorem eq_ptr1 {d : Nat} {t e : TypeId} (ht : P.underlying t = some (.pointer e)) (b : Option Addr) : (Op.equalIn (d + 1) t (.pointer none) (.pointer b)).run P w = .ok b.isNone w := by
  cases b <;> simp [Op.equalIn, run_underlying ht]
theorem eq_ptr2 {d : Nat} {t e : TypeId} (ht : P.underlying t = some (.pointer e)) (b : Option Addr) : (Op.equalIn (d + 1) t (.pointer b) (.pointer none)).run P w = .ok b.isNone w := by
  cases b <;> simp [Op.equalIn, run_underlying ht]
theorem eq_sl {d : Nat} {t e : TypeId} (ht : P.underlying t = some (.slice e)) (b : Option Addr) (n m : Nat) : (Op.equalIn (d + 1) t (.slice b n m) (.slice none 0 0)).run P w = .ok b.isNone w := by
  cases b <;> simp [Op.equalIn, run_underlying ht]
theorem eq_bool {d : Nat} {t : TypeId} (ht : P.underlying t = some .bool) (x y : Bool) : (Op.equalIn (d + 1) t (.bool x) (.bool y)).run P w = .ok (x == y) w := by
  simp [Op.equalIn, run_underlying ht]

theorem eqV_run {T : TypeId → Option Ty} {t : TypeId} {y : Ty} {a' b' : V} {r : Bool} (hy : tyOf P t = some y) (h : eqV y a' b' = some r) {u v : Value} (hu : RepV w A bl H a' u) (hv : RepV w A bl H b' v) (ox oy : Operand) (op : BinOp) :
    (Op.equalIn Op.maxDepth t u v).run P w = .ok r w ∧ (eqGuard op t ox oy u v).run P w = .ok () w ∧ (∀ k n, u ≠ .int k n) ∧ (∀ s, u ≠ .string s) ∧ (∀ k n, u ≠ .float k n) ∧ (∀ k n m, u ≠ .complex k n m) := by
  obtain ⟨i, d, hi⟩ := tyOf_is hy
  have hmd : Op.maxDepth = 9999 + 1 := rfl
  unfold eqV at h
  split at h
  · rename_i xs ys
    split at h
    case isFalse => simp at h
    rename_i hc
    obtain ⟨us, rfl, hxl, hxr⟩ := hu.agg_inv
    obtain ⟨vs, rfl, hyl, hyr⟩ := hv.agg_inv
    have he := hi.eq
    unfold eqOf at he
    split at he
    case h_2 => exact absurd he hc.1
    rename_i l hl
    split at he
    case isTrue => exact absurd he hc.1
    rename_i hg
    rw [he] at h
    have ha : aggAt P t = true := by
      have := hc.2
      rw [hi.k, kOf_agg] at this
      unfold aggAt; rw [hi.und]
      cases d <;> simp_all
    have hE := eqL_run (P := P) (w := w) (A := A) (bl := bl) (H := H) 8 hl (D := Op.maxDepth) (by decide) h (xs := xs) (ys := ys) (us := us.toList) (vs := vs.toList) ⟨by simpa using hxl, fun j x u hj hu => hxr j x u hj (by simpa using hu)⟩ ⟨by simpa using hyl, fun j x u hj hu => hyr j x u hj (by simpa using hu)⟩
    simp only [valOf, ha, if_true, Array.toArray_toList] at hE
    exact ⟨hE, eqGuard_agg (by simpa using hg), by simp, by simp, by simp, by simp⟩
  · split at h
    case h_2 => simp at h
    rename_i e he
    have hd : d = .pointer e := kOf_ptr (he.symm.trans hi.k)
    subst hd
    cases hu with | c _ _ hu =>
    cases hu
    unfold isNilP at h
    split at h <;> simp only [Option.some.injEq, reduceCtorEq] at h <;> subst h
    · cases hv with | c _ _ hv =>
      cases hv
      exact ⟨by rw [hmd]; first | exact eq_ptr1 hi.und _ | exact eq_ptr2 hi.und _ | exact eq_sl hi.und _ _ _, eqGuard_plain (by simp) (by simp), by simp, by simp, by simp, by simp⟩
    · obtain ⟨a, rfl, _⟩ := hv.fp_inv
      exact ⟨by rw [hmd]; first | exact eq_ptr1 hi.und _ | exact eq_ptr2 hi.und _ | exact eq_sl hi.und _ _ _, eqGuard_plain (by simp) (by simp), by simp, by simp, by simp, by simp⟩
    · obtain ⟨a, rfl, _⟩ := hv.ptr_inv
      exact ⟨by rw [hmd]; first | exact eq_ptr1 hi.und _ | exact eq_ptr2 hi.und _ | exact eq_sl hi.und _ _ _, eqGuard_plain (by simp) (by simp), by simp, by simp, by simp, by simp⟩
  · split at h
    case h_2 => simp at h
    rename_i e he
    have hd : d = .pointer e := kOf_ptr (he.symm.trans hi.k)
    subst hd
    cases hv with | c _ _ hv =>
    cases hv
    unfold isNilP at h
    split at h <;> simp only [Option.some.injEq, reduceCtorEq] at h <;> subst h
    · cases hu with | c _ _ hu =>
      cases hu
      exact ⟨by rw [hmd]; first | exact eq_ptr1 hi.und _ | exact eq_ptr2 hi.und _ | exact eq_sl hi.und _ _ _, eqGuard_plain (by simp) (by simp), by simp, by simp, by simp, by simp⟩
    · obtain ⟨a, rfl, _⟩ := hu.fp_inv
      exact ⟨by rw [hmd]; first | exact eq_ptr1 hi.und _ | exact eq_ptr2 hi.und _ | exact eq_sl hi.und _ _ _, eqGuard_plain (by simp) (by simp), by simp, by simp, by simp, by simp⟩
    · obtain ⟨a, rfl, _⟩ := hu.ptr_inv
      exact ⟨by rw [hmd]; first | exact eq_ptr1 hi.und _ | exact eq_ptr2 hi.und _ | exact eq_sl hi.und _ _ _, eqGuard_plain (by simp) (by simp), by simp, by simp, by simp, by simp⟩
  · split at h
    case h_2 => simp at h
    rename_i e he
    have hd : d = .slice e := kOf_slice (he.symm.trans hi.k)
    subst hd
    have hv' : v = .slice none 0 0 := by
      rcases hv.sl_inv with ⟨rfl, _⟩ | ⟨a, cap, vs, rfl, h1, h2, _⟩
      · rfl
      · exact absurd rfl h2
    subst hv'
    unfold isNilS at h
    split at h
    case h_2 => simp at h
    rename_i sz nl ti xs
    rcases hu.sl_inv with ⟨rfl, rfl, hnl⟩ | ⟨a, cap, vs, rfl, h1, h2, _⟩
    · have hr : r = true := by
        split at h
        · simp at h; subst h; rename_i b; cases b <;> simp_all
        · simp at h
      subst hr
      exact ⟨by rw [hmd]; first | exact eq_ptr1 hi.und _ | exact eq_ptr2 hi.und _ | exact eq_sl hi.und _ _ _, eqGuard_plain (by simp) (by simp), by simp, by simp, by simp, by simp⟩
    · have hr : r = false := by
        split at h
        · simp at h; subst h; rename_i b; cases b <;> simp_all
        · split at h <;> simp_all
      subst hr
      exact ⟨by rw [hmd]; first | exact eq_ptr1 hi.und _ | exact eq_ptr2 hi.und _ | exact eq_sl hi.und _ _ _, eqGuard_plain (by simp) (by simp), by simp, by simp, by simp, by simp⟩
  · simp at h

theorem bin_run {T : TypeId → Option Ty} (hT : ∀ t y, T t = some y → tyOf P t = some y) {op : BinOp} {t : TypeId} {a' b' v : V} (h : bin T op t a' b' = some v) {u u' : Value} (hu : RepV w A bl H a' u) (hv : RepV w A bl H b' u') (ox oy : Operand) :
    ∃ r, (do eqGuard op t ox oy u u'; binOp op t u u' : Sem Value).run P w = .ok r w ∧ RepV w A bl H v r := by
  unfold bin at h
  split at h
  · rename_i k x k' y
    obtain rfl := hu.int_inv
    obtain rfl := hv.int_inv
    split at h
    · split at h <;> simp only [Option.some.injEq, reduceCtorEq] at h
      rename_i hy
      subst h
      refine ⟨_, ?_, .int _ _⟩
      rw [Sem.run_bind, eqGuard_plain (by simp) (by simp)]
      simp only [Result.andThen_ok, binOp_shl, shift_shl_any _ _ _ _ hy]
      rfl
    · split at h <;> simp only [Option.some.injEq, reduceCtorEq] at h
      rename_i hy
      subst h
      refine ⟨_, ?_, .int _ _⟩
      rw [Sem.run_bind, eqGuard_plain (by simp) (by simp)]
      simp only [Result.andThen_ok, binOp_shr, shift_shr_any _ _ _ _ hy]
      rfl
    · rename_i n1 n2
      split at h
      case isFalse => simp at h
      rename_i hk
      subst hk
      simp only [Option.map_eq_some_iff] at h
      obtain ⟨c, hc, rfl⟩ := h
      obtain ⟨r, hr, hrep⟩ := intBin_run (P := P) (w := w) (A := A) ⟨fun e => n1 (by rw [e]), fun e => n2 (by rw [e])⟩ hc t
      exact ⟨r, by rw [Sem.run_bind, eqGuard_plain (by simp) (by simp)]; simpa using hr, .c _ _ hrep⟩
  · obtain rfl := hu.str_inv
    obtain rfl := hv.str_inv
    simp only [Option.map_eq_some_iff] at h
    obtain ⟨c, hc, rfl⟩ := h
    obtain ⟨r, hr, hrep⟩ := strBin_run (P := P) (w := w) (A := A) hc t
    exact ⟨r, by rw [Sem.run_bind, eqGuard_plain (by simp) (by simp)]; simpa using hr, .c _ _ hrep⟩
  · split at h
    case h_2 => simp at h
    rename_i hTt
    obtain ⟨i, d, hi⟩ := tyOf_is (hT _ _ hTt)
    have hd : d = .bool := kOf_bool hi.k
    subst hd
    obtain rfl := hu.bool_inv
    obtain rfl := hv.bool_inv
    have hE := fun (x y : Bool) => (eq_bool (P := P) (w := w) (d := 9999) hi.und x y : (Op.equalIn Op.maxDepth t (.bool x) (.bool y)).run P w = .ok (x == y) w)
    have hB := fun x y => run_eq (P := P) (w := w) (by simp) (by simp) (by simp) (by simp) (hE x y)
    split at h <;> simp only [Option.some.injEq, reduceCtorEq] at h <;> subst h
    · exact ⟨_, by rw [Sem.run_bind, eqGuard_plain (by simp) (by simp)]; simpa using (hB _ _).1, .bool _⟩
    · exact ⟨_, by rw [Sem.run_bind, eqGuard_plain (by simp) (by simp)]; simpa using (hB _ _).2, .bool _⟩
  · split at h
    case h_2 => simp at h
    rename_i y hTt
    split at h <;> simp only [Option.map_eq_some_iff, reduceCtorEq] at h
    · obtain ⟨r, hr, rfl⟩ := h
      obtain ⟨g1, g2, g3, g4, g5, g6⟩ := eqV_run (T := T) (hT _ _ hTt) hr hu hv ox oy .eql
      exact ⟨_, by rw [Sem.run_bind, g2]; simpa using (run_eq g3 g4 g5 g6 g1).1, .bool _⟩
    · obtain ⟨r, hr, rfl⟩ := h
      obtain ⟨g1, g2, g3, g4, g5, g6⟩ := eqV_run (T := T) (hT _ _ hTt) hr hu hv ox oy .neq
      exact ⟨_, by rw [Sem.run_bind, g2]; simpa using (run_eq g3 g4 g5 g6 g1).2, .bool _⟩
end
end Go.Ev
