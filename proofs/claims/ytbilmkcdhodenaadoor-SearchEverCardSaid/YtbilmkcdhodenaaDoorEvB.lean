/-
  EV, part B: what it is for a world to hold what the abstract interpreter says: the relations, and what keeps them.
-/
import Derived.Test.YtbilmkcdhodenaaDoorEvA
set_option linter.all false
set_option linter.unusedSimpArgs false
set_option linter.unusedVariables false
namespace Go.Ev

inductive RepC (w : World) (A : Nat → Prop) : C → Value → Prop
  | int (k : IntKind) (n : Int) : RepC w A (.int k n) (.int k n)
  | bool (b : Bool) : RepC w A (.bool b) (.bool b)
  | str (s : List UInt8) : RepC w A (.str s) (.string ⟨s.toArray⟩)
  | pnil : RepC w A .pnil (.pointer none)
  | inil : RepC w A .inil .nilIface
  | fnil : RepC w A .fnil .nilFunc
  | slnil (sz : Nat) (nl : Option Bool) (tight : Bool) : nl ≠ some false → RepC w A (.sl sz nl tight []) (.slice none 0 0)
  | sl (sz : Nat) (nl : Option Bool) (tight : Bool) (xs : List (List C)) (a : Addr) (cap : Nat) (vs : Nat → Nat → Value) :
      (cap ≠ 0 → a.spot = none) → nl ≠ some true → (tight = true → cap = xs.length) → xs.length ≤ cap → (∀ cs ∈ xs, cs.length = sz) →
      (∀ (i j : Nat) (cs : List C) (x : C), xs[i]? = some cs → cs[j]? = some x → A a.block ∧ w.cell? ⟨a.block, a.off + i * sz + j, none⟩ = some (vs i j)) →
      (∀ (i j : Nat) (cs : List C) (x : C), xs[i]? = some cs → cs[j]? = some x → RepC w A x (vs i j)) →
      RepC w A (.sl sz nl tight xs) (.slice (some a) xs.length cap)

theorem cell_same {w w' : World} {b o : Nat} (h : w'.heap[b]? = w.heap[b]?) : w'.cell? ⟨b, o, none⟩ = w.cell? ⟨b, o, none⟩ := by
  simp only [World.cell?, h]

theorem RepC.mono {w w' : World} {A A' : Nat → Prop} (hw : ∀ b, A b → w'.heap[b]? = w.heap[b]?) (hA : ∀ b, A b → A' b) {x : C} {v : Value} (h : RepC w A x v) : RepC w' A' x v := by
  induction h with
  | int => exact .int ..
  | bool => exact .bool ..
  | str => exact .str ..
  | pnil => exact .pnil
  | inil => exact .inil
  | fnil => exact .fnil
  | slnil _ _ _ h => exact .slnil _ _ _ h
  | sl sz nl tight xs a cap vs h1 h2 h3 h4 h5 h6 _ ih =>
    refine .sl sz nl tight xs a cap vs h1 h2 h3 h4 h5 ?_ ih
    intro i j cs x hi hj
    obtain ⟨ha, hc⟩ := h6 i j cs x hi hj
    exact ⟨hA _ ha, (cell_same (hw _ ha)).trans hc⟩

/-- How many cells a block has, if it is a row that may be written. -/
def rowOf (w : World) (b : Nat) : Option Nat := match w.heap[b]? with
  | some (.cells c _ (0, 0)) => some c.size
  | _ => none

/-- What stands around a run: facts of the world in which it began; what a loop over an iterator wants (rest, the last one's stop, its record's block, what may be read for good, the blocks that are its own). -/
structure Ctx where
  K : World → Prop
  Y : List (List V) → Bool → Nat → (Nat → Prop) → (Nat → Prop) → World → Prop
  stable : ∀ {r s b A X w A' w'}, Y r s b A X w → (∀ c, A c → A' c) → (∀ c, A' c → c < w'.heap.size) → (∀ c, X c ∨ c = b → ¬ A' c) → (∀ c, c = b ∨ X c ∨ A c → w'.heap[c]? = w.heap[c]?) →
    w.heap.size ≤ w'.heap.size → w'.os = w.os → w'.tape = w.tape → w'.output = w.output → Y r s b A' X w'
/-- Where objects lie; the blocks of somebody else's. -/
structure Bl where
  loc : Nat → Option (Nat × Nat)
  X : Nat → Prop
  cx : Ctx
instance : CoeFun Bl (fun _ => Nat → Option (Nat × Nat)) := ⟨Bl.loc⟩

inductive RepV (w : World) (A : Nat → Prop) (bl : Bl) (H : Hp) : V → Value → Prop
  | junk (v : Value) : RepV w A bl H .junk v
  | undef : RepV w A bl H .undef undef
  | c (x : C) (v : Value) : RepC w A x v → RepV w A bl H (.c x) v
  | fp (cs : List C) (a : Addr) : a.spot = none → (∀ (j : Nat) (x : C), cs[j]? = some x → A a.block ∧ ∃ u, w.cell? ⟨a.block, a.off + j, none⟩ = some u ∧ RepC w A x u) →
      RepV w A bl H (.fp cs) (.pointer (some a))
  | buf (i ep off len : Nat) (a : Option Addr) (l cap : Nat) : i < H.length → (∀ z e xs, H[i]? = some (.mem z e xs) → ep ≤ e) →
      (∀ z xs, H[i]? = some (.mem z ep xs) → off + len ≤ xs.length ∧ l = len ∧ (len ≤ cap ∧ (cap ≠ 0 → ∀ a0, a = some a0 → a0.spot = none) ∧ (a = none → cap = 0)) ∧
        (cap ≠ 0 → ∃ b d n, bl i = some (b, d) ∧ a = some ⟨b, d + off * z, none⟩ ∧ rowOf w b = some n ∧ d + (off + cap) * z ≤ n)) →
      RepV w A bl H (.buf i ep off len) (.slice a l cap)
  | ptr (i ep el o : Nat) (a : Addr) : i < H.length → (∀ z e xs, H[i]? = some (.mem z e xs) → ep ≤ e) →
      (∀ cs, H[i]? = some (.box cs) → ∃ b, bl i = some (b, 0) ∧ (el = 0 → a = ⟨b, o, none⟩)) →
      (∀ z xs, H[i]? = some (.mem z ep xs) → ∃ b d, bl i = some (b, d) ∧ a = ⟨b, d + el * z + o, none⟩) →
      RepV w A bl H (.ptr i ep el o) (.pointer (some a))
  | yl (i b : Nat) : i < H.length → (∀ r s, H[i]? = some (.yo r s) → bl i = some (b, 0)) → RepV w A bl H (.yl i) (.func (.yield b) #[] #[])
  | fn (f : FuncId) (caps : List V) (vs : Array Value) : caps.length = vs.size → (∀ (j : Nat) (x : V) (u : Value), caps[j]? = some x → vs[j]? = some u → RepV w A bl H x u) →
      RepV w A bl H (.fn f caps) (.func (.func f) #[] vs)
  | agg (xs : List V) (vs : Array Value) : xs.length = vs.size → (∀ (j : Nat) (x : V) (u : Value), xs[j]? = some x → vs[j]? = some u → RepV w A bl H x u) →
      RepV w A bl H (.agg xs) (.agg vs)
  | tup (xs : List V) (vs : Array Value) : xs.length = vs.size → (∀ (j : Nat) (x : V) (u : Value), xs[j]? = some x → vs[j]? = some u → RepV w A bl H x u) →
      RepV w A bl H (.tup xs) (.tuple vs)

def O.live : O → Bool
  | .gone => false
  | _ => true
def alive (H : Hp) (i : Nat) : Prop := ∃ o, H[i]? = some o ∧ o.live = true

/-- What is held at one time is held at a later one. -/
structure Le (w : World) (A : Nat → Prop) (bl : Bl) (H : Hp) (w' : World) (A' : Nat → Prop) (bl' : Bl) (H' : Hp) : Prop where
  C : ∀ b, A b → w'.heap[b]? = w.heap[b]?
  A : ∀ b, A b → A' b
  len : H.length ≤ H'.length
  mem : ∀ i z e' xs', i < H.length → H'[i]? = some (.mem z e' xs') → ∃ e xs, H[i]? = some (.mem z e xs) ∧ e ≤ e' ∧ (e = e' → xs.length = xs'.length ∧ bl' i = bl i)
  box : ∀ i cs', i < H.length → H'[i]? = some (.box cs') → ∃ cs, H[i]? = some (.box cs) ∧ bl' i = bl i
  yo : ∀ i r' s', i < H.length → H'[i]? = some (.yo r' s') → ∃ r s, H[i]? = some (.yo r s) ∧ bl' i = bl i
  cx : bl'.cx = bl.cx
  row : ∀ i z e xs xs' b d n, H[i]? = some (.mem z e xs) → H'[i]? = some (.mem z e xs') → bl i = some (b, d) → rowOf w b = some n → rowOf w' b = some n

theorem Le.refl (w : World) (A : Nat → Prop) (bl : Bl) (H : Hp) : Le w A bl H w A bl H :=
  ⟨fun _ _ => rfl, fun _ h => h, Nat.le_refl _, fun _ _ _ _ _ h => ⟨_, _, h, Nat.le_refl _, fun _ => ⟨rfl, rfl⟩⟩, fun _ _ _ h => ⟨_, h, rfl⟩, fun _ _ _ _ h => ⟨_, _, h, rfl⟩, rfl, fun _ _ _ _ _ _ _ _ _ _ _ h => h⟩

theorem RepV.mono {w w' : World} {A A' : Nat → Prop} {bl bl' : Bl} {H H' : Hp} (hl : Le w A bl H w' A' bl' H') {x : V} {v : Value} (h : RepV w A bl H x v) : RepV w' A' bl' H' x v := by
  induction h with
  | junk => exact .junk _
  | undef => exact .undef
  | c x v h => exact .c _ _ (h.mono hl.C hl.A)
  | fp cs a h1 h2 =>
    refine .fp cs a h1 fun j x hj => ?_
    obtain ⟨ha, u, hc, hr⟩ := h2 j x hj
    exact ⟨hl.A _ ha, u, (cell_same (hl.C _ ha)).trans hc, hr.mono hl.C hl.A⟩
  | buf i ep off len a l cap h1 h2 h3 =>
    refine .buf i ep off len a l cap (Nat.lt_of_lt_of_le h1 hl.len) ?_ ?_
    · intro z e xs he
      obtain ⟨e0, xs0, h0, hle, _⟩ := hl.mem i z e xs h1 he
      exact Nat.le_trans (h2 _ _ _ h0) hle
    · intro z xs he
      obtain ⟨e0, xs0, h0, hle, heq⟩ := hl.mem i z ep xs h1 he
      have e1 : e0 = ep := Nat.le_antisymm hle (h2 _ _ _ h0)
      obtain ⟨hlen, hbl⟩ := heq e1
      subst e1
      obtain ⟨h4, h5, h6, h7⟩ := h3 z xs0 h0
      refine ⟨by omega, h5, h6, fun hc => ?_⟩
      obtain ⟨b, d, n, g1, g2, g3, g4⟩ := h7 hc
      exact ⟨b, d, n, hbl.trans g1, g2, hl.row i z _ _ _ b d n h0 he g1 g3, g4⟩
  | ptr i ep el o a h1 h2 h3 h4 =>
    refine .ptr i ep el o a (Nat.lt_of_lt_of_le h1 hl.len) ?_ ?_ ?_
    · intro z e xs he
      obtain ⟨e0, xs0, h0, hle, _⟩ := hl.mem i z e xs h1 he
      exact Nat.le_trans (h2 _ _ _ h0) hle
    · intro cs hc
      obtain ⟨cs0, h0, hb⟩ := hl.box i cs h1 hc
      obtain ⟨b, g1, g2⟩ := h3 _ h0
      exact ⟨b, hb.trans g1, g2⟩
    · intro z xs he
      obtain ⟨e0, xs0, h0, hle, heq⟩ := hl.mem i z ep xs h1 he
      have e1 : e0 = ep := Nat.le_antisymm hle (h2 _ _ _ h0)
      obtain ⟨_, hbl⟩ := heq e1
      subst e1
      obtain ⟨b, d, g1, g2⟩ := h4 z xs0 h0
      exact ⟨b, d, hbl.trans g1, g2⟩
  | yl i b h1 h2 =>
    refine .yl i b (Nat.lt_of_lt_of_le h1 hl.len) fun r s h => ?_
    obtain ⟨r0, s0, h0, hb⟩ := hl.yo i r s h1 h
    exact hb.trans (h2 _ _ h0)
  | fn f caps vs h1 _ ih => exact .fn f caps vs h1 ih
  | agg xs vs h1 _ ih => exact .agg xs vs h1 ih
  | tup xs vs h1 _ ih => exact .tup xs vs h1 ih

theorem Le.trans {w w1 w2 : World} {A A1 A2 : Nat → Prop} {bl bl1 bl2 : Bl} {H H1 H2 : Hp} (h : Le w A bl H w1 A1 bl1 H1) (k : Le w1 A1 bl1 H1 w2 A2 bl2 H2) : Le w A bl H w2 A2 bl2 H2 := by
  refine ⟨fun b hb => (k.C b (h.A b hb)).trans (h.C b hb), fun b hb => k.A b (h.A b hb), Nat.le_trans h.len k.len, fun i z e2 xs2 hi h2 => ?_, fun i cs2 hi h2 => ?_, fun i r2 s2 hi h2 => ?_, k.cx.trans h.cx, fun i z e xs xs2 b d n h0 h2 hb hr => ?_⟩
  · obtain ⟨e1, xs1, g1, g2, g3⟩ := k.mem i z e2 xs2 (Nat.lt_of_lt_of_le hi h.len) h2
    obtain ⟨e0, xs0, q1, q2, q3⟩ := h.mem i z e1 xs1 hi g1
    refine ⟨e0, xs0, q1, Nat.le_trans q2 g2, fun he => ?_⟩
    obtain ⟨r1, r2⟩ := q3 (by omega)
    obtain ⟨s1, s2⟩ := g3 (by omega)
    exact ⟨r1.trans s1, s2.trans r2⟩
  · obtain ⟨cs1, g1, g2⟩ := k.box i cs2 (Nat.lt_of_lt_of_le hi h.len) h2
    obtain ⟨cs0, q1, q2⟩ := h.box i cs1 hi g1
    exact ⟨cs0, q1, g2.trans q2⟩
  · obtain ⟨r1, s1, g1, g2⟩ := k.yo i r2 s2 (Nat.lt_of_lt_of_le hi h.len) h2
    obtain ⟨r0, s0, q1, q2⟩ := h.yo i r1 s1 hi g1
    exact ⟨r0, s0, q1, g2.trans q2⟩
  · have hi : i < H.length := (List.getElem?_eq_some_iff.1 h0).1
    obtain ⟨e1, xs1, g1, g2, g3⟩ := k.mem i z e xs2 (Nat.lt_of_lt_of_le hi h.len) h2
    obtain ⟨e0, xs0, q1, q2, q3⟩ := h.mem i z e1 xs1 hi g1
    rw [h0] at q1
    simp only [Option.some.injEq, O.mem.injEq, true_and] at q1
    obtain ⟨rfl, rfl⟩ := q1
    have : e = e1 := by omega
    subst this
    exact k.row i z e xs1 xs2 b d n g1 h2 ((q3 rfl).2.trans hb) (h.row i z e xs xs1 b d n h0 g1 hb hr)

def RepO (w : World) (A : Nat → Prop) (bl : Bl) (H : Hp) (i : Nat) : O → Prop
  | .gone => True
  | .box cs => ∃ b arr t, bl i = some (b, 0) ∧ w.heap[b]? = some (.cells arr t (0, 0)) ∧ arr.size = cs.length ∧ ∀ (j : Nat) (x : V) (u : Value), cs[j]? = some x → arr[j]? = some u → RepV w A bl H x u
  | .mem z _ xs => (∀ cs ∈ xs, cs.length = z) ∧ (bl i = none → xs = []) ∧ ∀ b d, bl i = some (b, d) → ∃ arr t, w.heap[b]? = some (.cells arr t (0, 0)) ∧ d + xs.length * z ≤ arr.size ∧
      ∀ (k j : Nat) (cs : List C) (x : C), xs[k]? = some cs → cs[j]? = some x → ∃ u, arr[d + k * z + j]? = some u ∧ RepC w A x u
  | .yo r s => ∃ b, bl i = some (b, 0) ∧ bl.cx.Y r s b A bl.X w

/-- The world in which all began is there yet. -/
def Based (w : World) (A : Nat → Prop) (K : World → Prop) : Prop := ∃ w0, K w0 ∧ ∀ b, b < w0.heap.size → A b ∧ w.heap[b]? = w0.heap[b]?
theorem Based.mono {w w' : World} {A A' : Nat → Prop} {K : World → Prop} (h : Based w A K) (hA : ∀ b, A b → A' b) (hC : ∀ b, A b → w'.heap[b]? = w.heap[b]?) : Based w' A' K := by
  obtain ⟨w0, h1, h2⟩ := h
  exact ⟨w0, h1, fun b hb => ⟨hA b (h2 b hb).1, (hC b (h2 b hb).1).trans (h2 b hb).2⟩⟩

structure RepH (w : World) (A : Nat → Prop) (bl : Bl) (H : Hp) : Prop where
  obj : ∀ i o, H[i]? = some o → RepO w A bl H i o
  inj : ∀ i j b d d', i ≠ j → alive H i → alive H j → bl i = some (b, d) → bl j = some (b, d') → False
  lt : ∀ i b d, alive H i → bl i = some (b, d) → b < w.heap.size ∧ ¬ A b
  alt : ∀ b, A b → b < w.heap.size
  xlt : ∀ b, bl.X b → b < w.heap.size ∧ ¬ A b
  xinj : ∀ i b d, alive H i → bl i = some (b, d) → ¬ bl.X b
  base : Based w A bl.cx.K

def Liv (bl : Bl) (H : Hp) (b : Nat) : Prop := (∃ i d, alive H i ∧ bl i = some (b, d)) ∨ bl.X b

/-- What becomes of a world: of what was there, the blocks of L alone may be turned; the blocks of L' are of L or new; what may be read for good stays. -/
structure Evo (w : World) (A L : Nat → Prop) (w' : World) (A' L' : Nat → Prop) : Prop where
  os : w'.os = w.os
  tape : w'.tape = w.tape
  output : w'.output = w.output
  size : w.heap.size ≤ w'.heap.size
  keep : ∀ b, b < w.heap.size → ¬ L b → w'.heap[b]? = w.heap[b]?
  live : ∀ b, L' b → L b ∨ w.heap.size ≤ b
  from_ : ∀ b, A' b → A b ∨ L b ∨ w.heap.size ≤ b

theorem Evo.refl (w : World) (A L : Nat → Prop) : Evo w A L w A L := ⟨rfl, rfl, rfl, Nat.le_refl _, fun _ _ _ => rfl, fun _ h => .inl h, fun _ h => .inl h⟩
theorem Evo.trans {w w1 w2 : World} {A A1 A2 L L1 L2 : Nat → Prop} (h : Evo w A L w1 A1 L1) (k : Evo w1 A1 L1 w2 A2 L2) : Evo w A L w2 A2 L2 :=
  ⟨k.os.trans h.os, k.tape.trans h.tape, k.output.trans h.output, Nat.le_trans h.size k.size,
   fun b hb hL => (k.keep b (Nat.lt_of_lt_of_le hb h.size) (fun h1 => (h.live b h1).elim hL (fun h2 => by omega))).trans (h.keep b hb hL),
   fun b hb => (k.live b hb).elim (fun h1 => h.live b h1) (fun h1 => .inr (Nat.le_trans h.size h1)),
   fun b hb => (k.from_ b hb).elim (fun h1 => h.from_ b h1) (fun h1 => h1.elim (fun h2 => (h.live b h2).elim (fun h3 => .inr (.inl h3)) (fun h3 => .inr (.inr h3))) (fun h2 => .inr (.inr (Nat.le_trans h.size h2))))⟩

structure RepF (w : World) (A : Nat → Prop) (bl : Bl) (H : Hp) (fr : Fr) (tmps : Array Value) : Prop where
  at_ : ∀ t v, get fr t = some v → ∃ u, tmps[t]? = some u ∧ RepV w A bl H v u

theorem RepF.mono {w w' : World} {A A' : Nat → Prop} {bl bl' : Bl} {H H' : Hp} (hl : Le w A bl H w' A' bl' H') {fr : Fr} {tmps : Array Value} (h : RepF w A bl H fr tmps) : RepF w' A' bl' H' fr tmps :=
  ⟨fun t v ht => let ⟨u, h1, h2⟩ := h.at_ t v ht; ⟨u, h1, h2.mono hl⟩⟩

/-! ## operands -/
section
variable {w : World} {A : Nat → Prop} {bl : Bl} {H : Hp} {fr : Fr} {a : Act}

theorem cOf_rep {v : Value} {x : C} (h : cOf v = some x) : RepC w A x v := by
  unfold cOf at h
  split at h <;> simp only [Option.some.injEq, reduceCtorEq] at h <;> subst h
  · exact .int ..
  · exact .bool ..
  · rename_i s
    have := RepC.str (w := w) (A := A) s.data.toList
    simpa using this
  · exact .slnil _ _ _ (by simp)
  · exact .pnil
  · exact .inil
  · exact .fnil

theorem opd_rep (hF : RepF w A bl H fr a.tmps) {x : Operand} {v : V} (h : opd fr x = some v) : RepV w A bl H v (a.eval x) := by
  unfold opd at h
  split at h
  · obtain ⟨u, h1, h2⟩ := hF.at_ _ _ h
    simp only [Act.eval, Array.getD_eq_getD_getElem?, h1, Option.getD_some]
    exact h2
  · split at h <;> simp only [Option.some.injEq, reduceCtorEq] at h
    subst h
    exact .c _ _ (cOf_rep ‹_›)
  · simp only [Option.some.injEq] at h
    subst h
    exact .fn _ [] #[] rfl (fun j x u hj => by simp at hj)
  · simp at h

theorem opdL_rep (hF : RepF w A bl H fr a.tmps) : ∀ {xs : List Operand} {vs : List V}, opdL fr xs = some vs → vs.length = xs.length ∧ ∀ (j : Nat) (x : V) (u : Value), vs[j]? = some x → (xs.map a.eval)[j]? = some u → RepV w A bl H x u
  | [], vs, h => by
    simp only [opdL, Option.some.injEq] at h
    subst h
    exact ⟨rfl, fun j x u hj => by simp at hj⟩
  | x :: r, vs, h => by
    simp only [opdL] at h
    split at h <;> simp only [Option.some.injEq, reduceCtorEq] at h
    rename_i v l h1 h2
    subst h
    obtain ⟨g1, g2⟩ := opdL_rep hF h2
    refine ⟨by simp [g1], fun j y u hj hu => ?_⟩
    cases j with
    | zero =>
      simp only [List.getElem?_cons_zero, Option.some.injEq, List.map_cons] at hj hu
      subst hj; subst hu
      exact opd_rep hF h1
    | succ j =>
      simp only [List.getElem?_cons_succ, List.map_cons] at hj hu
      exact g2 j y u hj hu
end
end Go.Ev
