/-
  EV, part D: the operations on structs, rows and memory.
-/
import Derived.Test.YtbilmkcdhodenaaDoorEvC
import Derived.Laws.Strings2
set_option linter.all false
set_option linter.unusedSimpArgs false
set_option linter.unusedVariables false
namespace Go.Ev
section
variable {P : Program} {w w' : World} {A : Nat → Prop} {bl : Bl} {H : Hp} {fr : Fr} {a : Act}

/-- A world that has grown. -/
structure Grow (w w' : World) : Prop where
  os : w'.os = w.os
  tape : w'.tape = w.tape
  output : w'.output = w.output
  size : w.heap.size ≤ w'.heap.size
  keep : ∀ b, b < w.heap.size → w'.heap[b]? = w.heap[b]?
theorem Grow.alloc (w : World) (o : Obj) : Grow w (w.alloc o) :=
  ⟨rfl, rfl, rfl, by simp, fun b hb => by
    show (w.heap.push o)[b]? = _
    rw [Array.getElem?_push, if_neg (Nat.ne_of_lt hb)]⟩
theorem Grow.refl (w : World) : Grow w w := ⟨rfl, rfl, rfl, Nat.le_refl _, fun _ _ => rfl⟩
theorem Grow.drew (w : World) : Grow w w.drew := ⟨rfl, rfl, rfl, Nat.le_refl _, fun _ _ => rfl⟩
theorem Grow.trans {w1 w2 : World} (h : Grow w w1) (k : Grow w1 w2) : Grow w w2 :=
  ⟨k.os.trans h.os, k.tape.trans h.tape, k.output.trans h.output, Nat.le_trans h.size k.size, fun b hb => (k.keep b (Nat.lt_of_lt_of_le hb h.size)).trans (h.keep b hb)⟩

theorem Grow.evo (g : Grow w w') {A' L L' : Nat → Prop} (hL : ∀ b, L' b → L b ∨ w.heap.size ≤ b) (hA : ∀ b, A' b → A b ∨ L b ∨ w.heap.size ≤ b) : Evo w A L w' A' L' :=
  ⟨g.os, g.tape, g.output, g.size, fun b hb _ => g.keep b hb, hL, hA⟩

theorem alive_lt {i : Nat} (h : alive H i) : i < H.length := by
  obtain ⟨o, h, _⟩ := h
  exact (List.getElem?_eq_some_iff.1 h).1

theorem RepO.block {i : Nat} {o : O} (hH : RepH w A bl H) (hi : H[i]? = some o) (hl : o.live = true) {b d : Nat} (hb : bl i = some (b, d)) : b < w.heap.size := (hH.lt i b d ⟨o, hi, hl⟩ hb).1

/-- What is somebody else's stays. -/
structure Ard (w w' : World) (A' : Nat → Prop) (bl bl' : Bl) : Prop where
  X : bl'.X = bl.X
  alt : ∀ c, A' c → c < w'.heap.size
  dis : ∀ c, bl.X c → ¬ A' c
  keep : ∀ c, bl.X c → w'.heap[c]? = w.heap[c]?
  size : w.heap.size ≤ w'.heap.size
  os : w'.os = w.os
  tape : w'.tape = w.tape
  output : w'.output = w.output

/-- An object is held as it was where its block is and what it leads to. -/
theorem RepO.mono {A' : Nat → Prop} {bl' : Bl} {H' : Hp} (hl : Le w A bl H w' A' bl' H') (ha : Ard w w' A' bl bl') {i : Nat} {o : O} (hbl : bl' i = bl i) (hk : ∀ b d, bl i = some (b, d) → w'.heap[b]? = w.heap[b]?) (hd : ∀ b d, bl i = some (b, d) → ¬ A' b) (h : RepO w A bl H i o) : RepO w' A' bl' H' i o := by
  cases o with
  | gone => trivial
  | yo r s =>
    obtain ⟨b, h1, h2⟩ := h
    refine ⟨b, hbl.trans h1, ?_⟩
    rw [hl.cx, ha.X]
    exact bl.cx.stable h2 hl.A ha.alt (fun c hc => hc.elim (ha.dis c) (fun e => e ▸ hd b 0 h1)) (fun c hc => by
      rcases hc with rfl | hc | hc
      · exact hk _ _ h1
      · exact ha.keep c hc
      · exact hl.C c hc) ha.size ha.os ha.tape ha.output
  | box cs =>
    obtain ⟨b, arr, t, h1, h2, h3, h4⟩ := h
    exact ⟨b, arr, t, hbl.trans h1, (hk _ _ h1).trans h2, h3, fun j x u hj hu => (h4 j x u hj hu).mono hl⟩
  | mem z e xs =>
    obtain ⟨h1, h2, h3⟩ := h
    refine ⟨h1, fun hn => h2 (hbl ▸ hn), fun b d hb => ?_⟩
    have hb' : bl i = some (b, d) := hbl ▸ hb
    obtain ⟨arr, t, g1, g2, g3⟩ := h3 b d hb'
    refine ⟨arr, t, (hk _ _ hb').trans g1, g2, fun k j cs x hx hj => ?_⟩
    obtain ⟨u, hu, hr⟩ := g3 k j cs x hx hj
    exact ⟨u, hu, hr.mono hl.C hl.A⟩

theorem rowOf_keep {b : Nat} (h : w'.heap[b]? = w.heap[b]?) : rowOf w' b = rowOf w b := by simp only [rowOf, h]

/-- The world grows; some of what is new may be read for good. -/
theorem grow (hH : RepH w A bl H) (g : Grow w w') {N : Nat → Prop} (hN : ∀ b, N b → w.heap.size ≤ b ∧ b < w'.heap.size) :
    RepH w' (fun b => A b ∨ N b) bl H ∧ Le w A bl H w' (fun b => A b ∨ N b) bl H := by
  have hl : Le w A bl H w' (fun b => A b ∨ N b) bl H :=
    ⟨fun b hb => g.keep b (hH.alt b hb), fun b hb => .inl hb, Nat.le_refl _, fun i z e xs _ h => ⟨e, xs, h, Nat.le_refl _, fun _ => ⟨rfl, rfl⟩⟩, fun i cs _ h => ⟨cs, h, rfl⟩, fun i r s _ h => ⟨r, s, h, rfl⟩, rfl,
     fun i z e xs xs' b d n h0 _ hb hr => by rw [rowOf_keep (g.keep b (hH.lt i b d ⟨_, h0, rfl⟩ hb).1)]; exact hr⟩
  have alt : ∀ b, (A b ∨ N b) → b < w'.heap.size := fun b hb => hb.elim (fun h => Nat.lt_of_lt_of_le (hH.alt b h) g.size) (fun h => (hN b h).2)
  have hard : Ard w w' (fun b => A b ∨ N b) bl bl := ⟨rfl, alt, fun c hc h => h.elim (hH.xlt c hc).2 (fun h => by have := (hN c h).1; have := (hH.xlt c hc).1; omega), fun c hc => g.keep c (hH.xlt c hc).1, g.size, g.os, g.tape, g.output⟩
  refine ⟨⟨fun i o hi => ?_, hH.inj, fun i b d ha hb => ?_, alt, fun b hb => ⟨Nat.lt_of_lt_of_le (hH.xlt b hb).1 g.size, hard.dis b hb⟩, hH.xinj, hH.base.mono hl.A hl.C⟩, hl⟩
  · cases ho : o.live with
    | false => cases o <;> simp [O.live] at ho; trivial
    | true => exact (hH.obj i o hi).mono hl hard rfl (fun b d hb => g.keep b (hH.lt i b d ⟨o, hi, ho⟩ hb).1) (fun b d hb h => h.elim (hH.lt i b d ⟨o, hi, ho⟩ hb).2 (fun h => by have := (hN b h).1; have := (hH.lt i b d ⟨o, hi, ho⟩ hb).1; omega))
  · obtain ⟨h1, h2⟩ := hH.lt i b d ha hb
    exact ⟨Nat.lt_of_lt_of_le h1 g.size, fun h => h.elim h2 (fun h => by have := hN b h; omega)⟩

def upd (bl : Bl) (n : Nat) (x : Option (Nat × Nat)) : Bl := { bl with loc := fun i => if i = n then x else bl i }
theorem upd_same {n : Nat} {x : Option (Nat × Nat)} : upd bl n x n = x := by simp [upd]
theorem upd_other {n i : Nat} {x : Option (Nat × Nat)} (h : i ≠ n) : upd bl n x i = bl i := by simp [upd, h]

theorem le_push (hH : RepH w A bl H) (g : Grow w w') {A' : Nat → Prop} (hA : ∀ b, A b → A' b) (o : O) (x : Option (Nat × Nat)) : Le w A bl H w' A' (upd bl H.length x) (H ++ [o]) :=
  ⟨fun b hb => g.keep b (hH.alt b hb), hA, by simp,
   fun i z e xs hi h => ⟨e, xs, by rwa [List.getElem?_append_left hi] at h, Nat.le_refl _, fun _ => ⟨rfl, upd_other (Nat.ne_of_lt hi)⟩⟩,
   fun i cs hi h => ⟨cs, by rwa [List.getElem?_append_left hi] at h, upd_other (Nat.ne_of_lt hi)⟩,
   fun i r s hi h => ⟨r, s, by rwa [List.getElem?_append_left hi] at h, upd_other (Nat.ne_of_lt hi)⟩, rfl,
   fun i z e xs xs' b d n h0 _ hb hr => by
     rw [rowOf_keep (g.keep b (hH.lt i b d ⟨_, h0, rfl⟩ hb).1)]; exact hr⟩

/-- A new object. -/
theorem push (hH : RepH w A bl H) (g : Grow w w') (o : O) (x : Option (Nat × Nat)) (hx : ∀ b d, x = some (b, d) → w.heap.size ≤ b ∧ b < w'.heap.size)
    (ho : RepO w' A (upd bl H.length x) (H ++ [o]) H.length o) :
    RepH w' A (upd bl H.length x) (H ++ [o]) ∧ Le w A bl H w' A (upd bl H.length x) (H ++ [o]) ∧ Evo w A (Liv bl H) w' A (Liv (upd bl H.length x) (H ++ [o])) := by
  have hl := le_push hH g (A' := A) (fun b hb => hb) o x
  have old : ∀ {i}, alive (H ++ [o]) i → i = H.length ∨ (i < H.length ∧ alive H i) := by
    intro i ha
    have := alive_lt ha
    simp at this
    rcases Nat.lt_or_ge i H.length with h | h
    · obtain ⟨o', h1, h2⟩ := ha
      exact .inr ⟨h, o', by rwa [List.getElem?_append_left h] at h1, h2⟩
    · exact .inl (by omega)
  have hard : Ard w w' A bl (upd bl H.length x) := ⟨rfl, fun b hb => Nat.lt_of_lt_of_le (hH.alt b hb) g.size, fun c hc => (hH.xlt c hc).2, fun c hc => g.keep c (hH.xlt c hc).1, g.size, g.os, g.tape, g.output⟩
  refine ⟨⟨fun i o' hi => ?_, fun i j b d d' hij ha ha' hb hb' => ?_, fun i b d ha hb => ?_, hard.alt, fun b hb => ⟨Nat.lt_of_lt_of_le (hH.xlt b hb).1 g.size, (hH.xlt b hb).2⟩, fun i b d ha hb hX => ?_, hH.base.mono hl.A hl.C⟩, hl, ?_⟩
  · rcases Nat.lt_or_ge i H.length with h | h
    · rw [List.getElem?_append_left h] at hi
      cases hlv : o'.live with
      | false => cases o' <;> simp [O.live] at hlv; trivial
      | true => exact (hH.obj i o' hi).mono hl hard (upd_other (Nat.ne_of_lt h)) (fun b d hb => g.keep b (hH.lt i b d ⟨o', hi, hlv⟩ hb).1) (fun b d hb => (hH.lt i b d ⟨o', hi, hlv⟩ hb).2)
    · have : i = H.length := by
        have := (List.getElem?_eq_some_iff.1 hi).1
        simp at this; omega
      subst this
      simp at hi
      subst hi
      exact ho
  · rcases old ha with rfl | ⟨h, ha⟩ <;> rcases old ha' with rfl | ⟨h', ha'⟩
    · exact hij rfl
    · rw [upd_same] at hb; rw [upd_other (Nat.ne_of_lt h')] at hb'
      have := (hx b d hb).1; have := (hH.lt _ _ _ ha' hb').1; omega
    · rw [upd_same] at hb'; rw [upd_other (Nat.ne_of_lt h)] at hb
      have := (hx b d' hb').1; have := (hH.lt _ _ _ ha hb).1; omega
    · rw [upd_other (Nat.ne_of_lt h)] at hb; rw [upd_other (Nat.ne_of_lt h')] at hb'
      exact hH.inj i j b d d' hij ha ha' hb hb'
  · rcases old ha with rfl | ⟨h, ha⟩
    · rw [upd_same] at hb
      have := hx b d hb
      exact ⟨this.2, fun hA => by have := hH.alt b hA; omega⟩
    · rw [upd_other (Nat.ne_of_lt h)] at hb
      have := hH.lt _ _ _ ha hb
      exact ⟨Nat.lt_of_lt_of_le this.1 g.size, this.2⟩
  · have hX : bl.X b := hX
    rcases old ha with rfl | ⟨h, ha⟩
    · rw [upd_same] at hb
      have := (hx b d hb).1; have := (hH.xlt b hX).1; omega
    · rw [upd_other (Nat.ne_of_lt h)] at hb
      exact hH.xinj _ _ _ ha hb hX
  · refine g.evo (fun b hb => ?_) (fun b hb => .inl hb)
    rcases hb with ⟨i, d, ha, hb⟩ | hb
    · rcases old ha with rfl | ⟨h, ha⟩
      · rw [upd_same] at hb; exact .inr (hx b d hb).1
      · rw [upd_other (Nat.ne_of_lt h)] at hb; exact .inl (.inl ⟨i, d, ha, hb⟩)
    · exact .inl (.inr hb)

/-! ## the operations that look at no memory -/
theorem int_wrap_neg (k : IntKind) (n : Int) : (Op.unary .neg (.int k n)).run P w = .ok (.int k (k.wrap (0 - n))) w := by simp [Op.unary, Op.intArith]

theorem un_run {op : UnOp} {x v : V} (h : un op x = some v) {u : Value} (hu : RepV w A bl H x u) : ∃ r, (Op.unary op u).run P w = .ok r w ∧ RepV w A bl H v r := by
  unfold un at h
  split at h <;> simp only [Option.some.injEq, reduceCtorEq] at h <;> subst h
  · obtain rfl := hu.int_inv
    exact ⟨_, int_wrap_neg _ _, .int _ _⟩
  · obtain rfl := hu.bool_inv
    exact ⟨_, by simp [Op.unary], .bool _⟩

theorem conv_run {T : TypeId → Option Ty} (hT : ∀ t y, T t = some y → tyOf P t = some y) {s d : TypeId} {x v : V} (h : conv T s d x = some v) {u : Value} (hu : RepV w A bl H x u) :
    ∃ r, (convert s d u).run P w = .ok r w ∧ RepV w A bl H v r := by
  unfold conv at h
  split at h <;> simp only [Option.some.injEq, reduceCtorEq] at h <;> subst h
  · rename_i h1 h2
    obtain ⟨i1, d1, g1⟩ := tyOf_is (hT _ _ h1)
    obtain ⟨i2, d2, g2⟩ := tyOf_is (hT _ _ h2)
    have hd : d2 = .int _ := kOf_int g2.k
    subst hd
    obtain rfl := hu.int_inv
    refine ⟨_, ?_, .int _ _⟩
    unfold convert
    simp [run_underlying g1.und, run_underlying g2.und, Conv.intToInt]
  · rename_i h1 h2
    obtain ⟨i1, d1, g1⟩ := tyOf_is (hT _ _ h1)
    obtain ⟨i2, d2, g2⟩ := tyOf_is (hT _ _ h2)
    have hd : d1 = .string := kOf_str g1.k
    subst hd
    have hd : d2 = .string := kOf_str g2.k
    subst hd
    obtain rfl := hu.str_inv
    refine ⟨_, ?_, .str _⟩
    unfold convert
    simp [run_underlying g1.und, run_underlying g2.und]

theorem part_len {α : Type} {xs l : List α} {off size : Nat} (h : part xs off size = some l) : off + size ≤ xs.length ∧ l = (xs.drop off).take size ∧ l.length = size := by
  unfold part at h
  split at h <;> simp only [Option.some.injEq, reduceCtorEq] at h
  subst h
  refine ⟨‹_›, rfl, ?_⟩
  simp; omega

/-- Some cells of a value, as a value of a type. -/
theorem ofCells_rep {t : TypeId} {ag : Bool} {l : List V} {v : V} {us : List Value} (h : ofCells ag l = some v) (hr : RepL w A bl H l us) (hag : aggAt P t = ag) : RepV w A bl H v (valOf P t us) := by
  unfold ofCells at h
  unfold valOf
  rw [hag]
  split at h
  · rename_i ht
    simp only [Option.some.injEq] at h
    subst h
    rw [if_pos ht]
    exact .agg _ _ (by simpa using hr.1) (fun j x u hj hu => hr.2 j x u hj (by simpa using hu))
  · rename_i ht
    rw [if_neg ht]
    split at h <;> simp only [Option.some.injEq, reduceCtorEq] at h
    subst h
    obtain ⟨u, rfl⟩ : ∃ u, us = [u] := by
      match us, hr.1 with
      | [u], _ => exact ⟨u, rfl⟩
    exact hr.2 0 _ _ rfl rfl

theorem field_of {y : Ty} {t : TypeId} {i : TypeInfo} {d : TypeDesc} (hi : TyIs P t y i d) {fs : List (Nat × Nat × Bool)} (hk : y.k = .struct fs) {f off size : Nat} {ag : Bool} (hf : fs[f]? = some (off, size, ag)) :
    ∃ l : Array Field, ∃ g : Field, ∃ gi : TypeInfo, ∃ gd : TypeDesc, d = .struct l ∧ l[f]? = some g ∧ g.offset = off ∧ sizeAt P g.type = size ∧ aggAt P g.type = ag ∧ P.info? g.type = some gi ∧ P.underlying g.type = some gd := by
  obtain ⟨l, rfl, rfl⟩ := kOf_struct (hk.symm.trans hi.k)
  simp only [List.getElem?_map, Option.map_eq_some_iff, Prod.mk.injEq] at hf
  obtain ⟨g, hg, h1, h2, h3⟩ := hf
  have hfl := hi.flds
  simp only [fieldsOk, List.all_eq_true, Bool.and_eq_true] at hfl
  obtain ⟨q1, q2⟩ := hfl g (List.mem_of_getElem? hg)
  obtain ⟨gi, hgi⟩ := Option.isSome_iff_exists.1 q1
  obtain ⟨gd, hgd⟩ := Option.isSome_iff_exists.1 q2
  exact ⟨l, g, gi, gd, rfl, by simpa using hg, h1, h2, h3, hgi, hgd⟩

theorem get_wf {T : TypeId → Option Ty} (hT : ∀ t y, T t = some y → tyOf P t = some y) {t : TypeId} {y : Ty} (h : T t = some y) : ∃ i d, TyIs P t y i d := tyOf_is (hT t y h)

theorem op_field {T : TypeId → Option Ty} (hT : ∀ t y, T t = some y → tyOf P t = some y) {s : TypeId} {y : Ty} (hs : T s = some y) {fs : List (Nat × Nat × Bool)} (hk : y.k = .struct fs) {f off size : Nat} {ag : Bool} (hf : fs[f]? = some (off, size, ag))
    {xs l : List V} {v : V} (hp : part xs off size = some l) (hv : ofCells ag l = some v) {u : Value} (hu : RepV w A bl H (.agg xs) u) : ∃ r, (Instr.field s u f).run P w = .ok r w ∧ RepV w A bl H v r := by
  obtain ⟨i, d, hi⟩ := get_wf hT hs
  obtain ⟨la, g, gi, gd, rfl, hg, h1, h2, h3, h4, h5⟩ := field_of hi hk hf
  obtain ⟨vs, rfl, hl, hr⟩ := hu.agg_inv
  obtain ⟨p1, p2, p3⟩ := part_len hp
  have hone : aggAt P g.type = false → sizeAt P g.type = 1 := by
    intro ha
    rw [h3] at ha
    subst ha
    unfold ofCells at hv
    simp only [Bool.false_eq_true, if_false] at hv
    split at hv <;> simp only [Option.some.injEq, reduceCtorEq] at hv
    rw [h2, ← p3]; rfl
  have hp' := run_part (P := P) (w := w) h4 h5 vs.toList off (by simp; omega) hone
  refine ⟨_, ?_, ofCells_rep (P := P) (t := g.type) (us := (vs.toList.drop off).take size) hv ?_ h3⟩
  · unfold Instr.field
    simp only [Sem.run_bind, run_underlying hi.und, Result.andThen_ok, hg, asAgg, Sem.run_pure, h1]
    rw [h2] at hp'
    simpa using hp'
  · subst p2
    exact RepL.take (RepL.drop ⟨by simpa using hl, fun j x u hj hu => hr j x u hj (by simpa using hu)⟩ off) size

theorem bnd_rep (hF : RepF w A bl H fr a.tmps) {x : Option Operand} {n : Option Nat} (h : bnd fr x = some n) : (x = none ∧ n = none) ∨ ∃ o k m, x = some o ∧ n = some m ∧ a.eval o = .int k (m : Int) := by
  cases x with
  | none => simp [bnd] at h; exact .inl ⟨rfl, h.symm⟩
  | some o =>
    unfold bnd at h
    simp only at h
    split at h
    · split at h <;> simp only [Option.some.injEq, reduceCtorEq] at h
      rename_i k n hn h0
      have := (opd_rep hF hn).int_inv
      exact .inr ⟨o, k, n.toNat, rfl, h.symm, by rw [this, Int.toNat_of_nonneg h0]⟩
    · simp at h

theorem run_bounds (b : Bool) {len cap : Nat} {lo hi mx : Option Nat} {lo' hi' mx' : Option Value}
    (hl : (lo' = none ∧ lo = none) ∨ ∃ k m, lo' = some (.int k (m : Nat)) ∧ lo = some m) (hh : (hi' = none ∧ hi = none) ∨ ∃ k m, hi' = some (.int k (m : Nat)) ∧ hi = some m) (hm : (mx' = none ∧ mx = none) ∨ ∃ k m, mx' = some (.int k (m : Nat)) ∧ mx = some m)
    (h1 : lo.getD 0 ≤ hi.getD len) (h2 : hi.getD len ≤ mx.getD cap) (h3 : mx.getD cap ≤ cap) (h4 : mx ≠ none → hi ≠ none) :
    (Instr.sliceBounds b len cap lo' hi' mx').run P w = .ok (lo.getD 0, hi.getD len, mx.getD cap) w := by
  have sb : ∀ (k : IntKind) (n y : Nat) (c : BoundsCode), n ≤ y → (Instr.sliceBound (.int k (n : Nat)) y c).run P w = .ok n w := by
    intro k n y c h
    have e : (0 : Int) ≤ (n : Int) ∧ (n : Int) ≤ (y : Int) := ⟨by omega, by omega⟩
    simp [Instr.sliceBound, asIntOf, e.2]
  rcases hl with ⟨rfl, rfl⟩ | ⟨kl, l, rfl, rfl⟩ <;> rcases hh with ⟨rfl, rfl⟩ | ⟨kh, h, rfl, rfl⟩ <;> rcases hm with ⟨rfl, rfl⟩ | ⟨km, m, rfl, rfl⟩ <;>
    simp_all [Instr.sliceBounds]

theorem op_slice_str {T : TypeId → Option Ty} (hT : ∀ t y, T t = some y → tyOf P t = some y) {t : TypeId} {y : Ty} (ht : T t = some y) (hk : y.k = .str) {s : List UInt8} {lo hi : Option Nat} {lo' hi' : Option Value}
    (hl : (lo' = none ∧ lo = none) ∨ ∃ k m, lo' = some (.int k (m : Nat)) ∧ lo = some m) (hh : (hi' = none ∧ hi = none) ∨ ∃ k m, hi' = some (.int k (m : Nat)) ∧ hi = some m)
    (h1 : lo.getD 0 ≤ hi.getD s.length) (h2 : hi.getD s.length ≤ s.length) :
    (Instr.sliceAt t (.string ⟨s.toArray⟩) lo' hi' none).run P w = .ok (.string ⟨((s.take (hi.getD s.length)).drop (lo.getD 0)).toArray⟩) w := by
  obtain ⟨i, d, hi0⟩ := get_wf hT ht
  have hd : d = .string := kOf_str (hk.symm.trans hi0.k)
  subst hd
  have hsz : (ByteArray.mk s.toArray).size = s.length := by simp [ByteArray.size]
  have hb := run_bounds (P := P) (w := w) false (len := s.length) (cap := s.length) hl hh (.inl ⟨rfl, rfl⟩) h1 h2 (Nat.le_refl _) (by simp)
  unfold Instr.sliceAt
  simp only [Sem.run_bind, run_underlying hi0.und, Result.andThen_ok]
  unfold Instr.slice
  simp only [Sem.run_bind, run_underlying hi0.und, Result.andThen_ok, Option.isSome_none, Bool.false_eq_true, if_false, Sem.run_pure, hsz, hb]
  rw [ByteArray.extract_mk, List.drop_take]

theorem op_slice_sl {T : TypeId → Option Ty} (hT : ∀ t y, T t = some y → tyOf P t = some y) {t : TypeId} {y : Ty} (ht : T t = some y) {e : TypeId} (hk : y.k = .slice e) {ei : TypeInfo} (he : P.info? e = some ei) {b : Option Addr} {len cap : Nat} {lo hi mx : Option Nat} {lo' hi' mx' : Option Value}
    (hl : (lo' = none ∧ lo = none) ∨ ∃ k m, lo' = some (.int k (m : Nat)) ∧ lo = some m) (hh : (hi' = none ∧ hi = none) ∨ ∃ k m, hi' = some (.int k (m : Nat)) ∧ hi = some m) (hm : (mx' = none ∧ mx = none) ∨ ∃ k m, mx' = some (.int k (m : Nat)) ∧ mx = some m)
    (h1 : lo.getD 0 ≤ hi.getD len) (h2 : hi.getD len ≤ mx.getD cap) (h3 : mx.getD cap ≤ cap) (h4 : mx ≠ none → hi ≠ none) :
    (Instr.sliceAt t (.slice b len cap) lo' hi' mx').run P w = .ok (.slice (if mx.getD cap = lo.getD 0 then b else b.map (·.add (lo.getD 0 * ei.size))) (hi.getD len - lo.getD 0) (mx.getD cap - lo.getD 0)) w := by
  obtain ⟨i, d, hi0⟩ := get_wf hT ht
  have hd : d = .slice e := kOf_slice (hk.symm.trans hi0.k)
  subst hd
  have hb := run_bounds (P := P) (w := w) true (len := len) (cap := cap) hl hh hm h1 h2 h3 h4
  unfold Instr.sliceAt
  simp only [Sem.run_bind, run_underlying hi0.und, Result.andThen_ok]
  unfold Instr.slice
  simp only [Sem.run_bind, run_underlying hi0.und, Result.andThen_ok, hb, run_sizeOf he, Sem.run_pure]

theorem add_plain' (b o n : Nat) : (⟨b, o, none⟩ : Addr).add n = ⟨b, o + n, none⟩ := by unfold Addr.add; split <;> simp_all
theorem add_spot {a : Addr} (h : a.spot = none) (n : Nat) : a.add n = ⟨a.block, a.off + n, none⟩ := by
  cases a; simp only at h; subst h; exact add_plain' _ _ _

/-- A part of a slice that is only read. -/
theorem sl_cut {sz : Nat} {nl : Option Bool} {ti : Bool} {xs : List (List C)} {u : Value} (hu : RepV w A bl H (.c (.sl sz nl ti xs)) u) {size l h : Nat} (hsz : xs ≠ [] → size = sz) (h1 : l ≤ h) (h2 : h ≤ xs.length) (m : Nat → Nat) (hm : ∀ cap, xs.length ≤ cap → h ≤ m cap ∧ m cap ≤ cap) {ti' : Bool} (hti : ti' = true → ∀ cap, xs.length ≤ cap → (ti = true → cap = xs.length) → m cap = h) :
    ∃ b cap, u = .slice b xs.length cap ∧ xs.length ≤ cap ∧ RepV w A bl H (.c (.sl sz nl ti' ((xs.take h).drop l))) (.slice (if m cap = l then b else b.map (·.add (l * size))) (h - l) (m cap - l)) := by
  rcases hu.sl_inv with ⟨rfl, rfl, hnl⟩ | ⟨a, cap, vs, rfl, g1, g2, g3, g4, g5, g6, g7⟩
  · refine ⟨none, 0, rfl, Nat.le_refl _, ?_⟩
    simp only [List.length_nil, Nat.le_zero_eq] at h2
    subst h2
    obtain rfl : l = 0 := by omega
    have := hm 0 (by simp)
    have e : m 0 = 0 := by omega
    simp only [e, if_true, Nat.sub_self, List.take_nil, List.drop_nil]
    exact .c _ _ (.slnil _ _ _ hnl)
  · refine ⟨some a, cap, rfl, g4, ?_⟩
    obtain ⟨m1, m2⟩ := hm cap g4
    have hlen : ((xs.take h).drop l).length = h - l := by simp; omega
    have ex : ∃ a' : Addr, (if m cap = l then some a else (some a).map (·.add (l * size))) = some a' ∧ (m cap - l ≠ 0 → a'.spot = none) ∧ (l < h → a'.block = a.block ∧ a'.off = a.off + l * size) := by
      by_cases hc : m cap = l
      · exact ⟨a, by simp [hc], fun h => by omega, fun hlt => by omega⟩
      · have g1 := g1 (by omega)
        exact ⟨a.add (l * size), by simp [hc], fun _ => by rw [add_spot g1], fun _ => by rw [add_spot g1]; exact ⟨rfl, rfl⟩⟩
    obtain ⟨a', e1, e2, e3⟩ := ex
    rw [e1, ← hlen]
    have at_ : ∀ (i : Nat) (cs : List C), ((xs.take h).drop l)[i]? = some cs → xs[l + i]? = some cs ∧ l < h := by
      intro i cs hi
      have hi' := hi
      rw [List.getElem?_drop, List.getElem?_take] at hi'
      split at hi' <;> simp_all
      omega
    refine .c _ _ (.sl sz nl ti' _ a' (m cap - l) (fun i j => vs (l + i) j) e2 g2 ?_ (by rw [hlen]; omega) ?_ ?_ ?_)
    · intro ht
      have := hti ht cap g4 g3
      rw [hlen]; omega
    · intro cs hcs
      exact g5 cs (List.mem_of_mem_take (List.mem_of_mem_drop hcs))
    · intro i j cs x hi hj
      obtain ⟨hi', hlt⟩ := at_ i cs hi
      obtain ⟨k1, k2⟩ := g6 (l + i) j cs x hi' hj
      obtain ⟨b1, b2⟩ := e3 hlt
      have hs : size = sz := hsz (by intro h0; rw [h0] at hi'; simp at hi')
      refine ⟨by rw [b1]; exact k1, ?_⟩
      rw [b1, b2, ← k2, hs]
      congr 2
      rw [Nat.add_mul]; omega
    · intro i j cs x hi hj
      exact g7 (l + i) j cs x (at_ i cs hi).1 hj

/-- A part of an own row. -/
theorem buf_cut {i ep off len : Nat} {u : Value} (hu : RepV w A bl H (.buf i ep off len) u) {z : Nat} {xs : List (List C)} (hi : H[i]? = some (.mem z ep xs)) {l h : Nat} (h1 : l ≤ h) (h2 : h ≤ len) (m : Nat → Nat) (hm : ∀ cap, len ≤ cap → h ≤ m cap ∧ m cap ≤ cap) :
    ∃ b cap, u = .slice b len cap ∧ len ≤ cap ∧ RepV w A bl H (.buf i ep (off + l) (h - l)) (.slice (if m cap = l then b else b.map (·.add (l * z))) (h - l) (m cap - l)) := by
  obtain ⟨b, l0, cap, rfl, g1, g2, g3⟩ := hu.buf_inv
  obtain ⟨k1, rfl, ⟨k3, k5, k6⟩, k4⟩ := g3 z xs hi
  obtain ⟨m1, m2⟩ := hm cap k3
  refine ⟨b, cap, rfl, k3, .buf i ep (off + l) (h - l) _ _ _ g1 g2 ?_⟩
  intro z' xs' hi'
  rw [hi] at hi'
  simp only [Option.some.injEq, O.mem.injEq, true_and] at hi'
  obtain ⟨rfl, rfl⟩ := hi'
  refine ⟨by omega, rfl, ⟨by omega, fun hcz a0 ha0 => ?_, fun hn => ?_⟩, fun hc => ?_⟩
  · have k5 := k5 (by omega)
    split at ha0
    · exact k5 a0 ha0
    · simp only [Option.map_eq_some_iff] at ha0
      obtain ⟨a1, h1, rfl⟩ := ha0
      rw [add_spot (k5 a1 h1)]
  · have hb0 : b = none := by
      split at hn
      · exact hn
      · cases b <;> simp at hn; rfl
    have := k6 hb0
    omega
  obtain ⟨b', d, n, q1, q2, q3, q4⟩ := k4 (by omega)
  refine ⟨b', d, n, q1, ?_, q3, ?_⟩
  · rw [if_neg (by omega), q2]
    simp only [Option.map_some, add_plain', Option.some.injEq, Addr.mk.injEq, and_true, true_and]
    rw [Nat.add_mul]; omega
  · have : (off + l + (m cap - l)) * z ≤ (off + cap) * z := Nat.mul_le_mul_right _ (by omega)
    omega

/-- The address of an element of an own row. -/
theorem ptr_of_buf {i ep off len : Nat} {u : Value} (hu : RepV w A bl H (.buf i ep off len) u) {z : Nat} {xs : List (List C)} (hi : H[i]? = some (.mem z ep xs)) {n : Nat} (hn : n < len) :
    ∃ a cap, u = .slice (some a) len cap ∧ RepV w A bl H (.ptr i ep (off + n) 0) (.pointer (some (a.add (n * z)))) := by
  obtain ⟨b, l0, cap, rfl, g1, g2, g3⟩ := hu.buf_inv
  obtain ⟨k1, rfl, ⟨k3, k5, k6⟩, k4⟩ := g3 z xs hi
  obtain ⟨b', d, m, q1, rfl, q3, q4⟩ := k4 (by omega)
  refine ⟨_, cap, rfl, ?_⟩
  rw [add_plain']
  refine .ptr i ep (off + n) 0 _ g1 g2 (fun cs hc => by rw [hi] at hc; simp at hc) fun z' xs' hi' => ?_
  rw [hi] at hi'
  simp only [Option.some.injEq, O.mem.injEq, true_and] at hi'
  obtain ⟨rfl, rfl⟩ := hi'
  refine ⟨b', d, q1, ?_⟩
  simp only [Addr.mk.injEq, and_true, true_and]
  rw [Nat.add_mul]; omega

theorem run_fieldPlace {l : Array Field} {g : Field} {gi : TypeInfo} (h4 : P.info? g.type = some gi) (h0 : sizeAt P g.type ≠ 0) (a : Addr) : (fieldPlace a g).run P w = .ok (a.add g.offset) w := by
  unfold fieldPlace
  rw [Sem.run_bind, run_sizeAt h4]
  simp [h0]

theorem op_fieldAddr {T : TypeId → Option Ty} (hT : ∀ t y, T t = some y → tyOf P t = some y) {s : TypeId} {y : Ty} (hs : T s = some y) {fs : List (Nat × Nat × Bool)} (hk : y.k = .struct fs) {f off size : Nat} {ag : Bool} (hf : fs[f]? = some (off, size, ag)) (h0 : size ≠ 0) (a : Addr) :
    (Instr.fieldAt s (.pointer (some a)) f).run P w = .ok (.pointer (some (a.add off))) w := by
  obtain ⟨i, d, hi⟩ := get_wf hT hs
  obtain ⟨la, g, gi, gd, rfl, hg, h1, h2, h3, h4, h5⟩ := field_of hi hk hf
  unfold Instr.fieldAt
  simp only [Sem.run_bind, run_underlying hi.und, Result.andThen_ok, hg, Instr.sureAddr, Sem.run_pure, run_fieldPlace (l := la) h4 (by rw [h2]; exact h0), h1]

theorem op_indexAddr_sl {T : TypeId → Option Ty} (hT : ∀ t y, T t = some y → tyOf P t = some y) {t : TypeId} {y : Ty} (ht : T t = some y) {e : TypeId} (hk : y.k = .slice e) {ei : TypeInfo} (he : P.info? e = some ei) {a : Addr} {len cap n : Nat} {k : IntKind} (hn : n < len) :
    (Instr.indexAt t (.slice (some a) len cap) (.int k (n : Int))).run P w = .ok (.pointer (some (a.add (n * ei.size)))) w := by
  obtain ⟨i, d, hi0⟩ := get_wf hT ht
  have hd : d = .slice e := kOf_slice (hk.symm.trans hi0.k)
  subst hd
  unfold Instr.indexAt
  simp [Sem.run_bind, run_underlying hi0.und, asIntOf, run_sizeOf he, hn]

theorem op_indexAddr_arr {T : TypeId → Option Ty} (hT : ∀ t y, T t = some y → tyOf P t = some y) {t : TypeId} {y : Ty} (ht : T t = some y) {m : Nat} {e : TypeId} (hk : y.k = .array m e) {ei : TypeInfo} (he : P.info? e = some ei) {a : Addr} {n : Nat} {k : IntKind} (hn : n < m) :
    (Instr.indexAt t (.pointer (some a)) (.int k (n : Int))).run P w = .ok (.pointer (some (a.add (n * ei.size)))) w := by
  obtain ⟨i, d, hi0⟩ := get_wf hT ht
  have hd : d = .array m e := kOf_array (hk.symm.trans hi0.k)
  subst hd
  unfold Instr.indexAt
  simp [Sem.run_bind, run_underlying hi0.und, asIntOf, Instr.sureAddr, run_sizeOf he, hn]

theorem fp_of_sl {sz : Nat} {nl : Option Bool} {ti : Bool} {xs : List (List C)} {u : Value} (hu : RepV w A bl H (.c (.sl sz nl ti xs)) u) {n : Nat} {cs : List C} (hn : xs[n]? = some cs) :
    ∃ a cap, u = .slice (some a) xs.length cap ∧ RepV w A bl H (.fp cs) (.pointer (some (a.add (n * sz)))) := by
  rcases hu.sl_inv with ⟨rfl, rfl, hnl⟩ | ⟨a, cap, vs, rfl, g1, g2, g3, g4, g5, g6, g7⟩
  · simp at hn
  · refine ⟨a, cap, rfl, ?_⟩
    have hlt := (List.getElem?_eq_some_iff.1 hn).1
    rw [add_spot (g1 (by omega))]
    refine .fp cs _ rfl fun j x hj => ?_
    obtain ⟨k1, k2⟩ := g6 n j cs x hn hj
    exact ⟨k1, _, k2, g7 n j cs x hn hj⟩

theorem op_index_str {T : TypeId → Option Ty} (hT : ∀ t y, T t = some y → tyOf P t = some y) {t : TypeId} {y : Ty} (ht : T t = some y) (hk : y.k = .str) {s : List UInt8} {n : Nat} {k : IntKind} {b : UInt8} (hn : s[n]? = some b) :
    (Instr.index t (.string ⟨s.toArray⟩) (.int k (n : Int))).run P w = .ok (.int .u8 b.toNat) w := by
  obtain ⟨i, d, hi0⟩ := get_wf hT ht
  have hd : d = .string := kOf_str (hk.symm.trans hi0.k)
  subst hd
  obtain ⟨hlt, rfl⟩ := List.getElem?_eq_some_iff.1 hn
  have hsz : (ByteArray.mk s.toArray).size = s.length := by simp [ByteArray.size]
  unfold Instr.index
  have hg : (ByteArray.mk s.toArray)[n]? = some s[n] := by
    rw [getElem?_pos _ _ (by rw [hsz]; exact hlt)]; rfl
  simp [Sem.run_bind, run_underlying hi0.und, asIntOf, hg]

/-! ## loads and stores -/
theorem aggAt_k {t : TypeId} {y : Ty} {i : TypeInfo} {d : TypeDesc} (hi : TyIs P t y i d) : aggAt P t = y.k.agg := by
  rw [hi.k, kOf_agg]; unfold aggAt; rw [hi.und]; cases d <;> rfl

theorem run_loadVar {t : TypeId} {y : Ty} {i : TypeInfo} {d : TypeDesc} (hi : TyIs P t y i d) {a : Addr} (ha : a.spot = none) {us : List Value} (hl : us.length = y.size) (hu : ∀ (j : Nat) (u : Value), us[j]? = some u → w.cell? ⟨a.block, a.off + j, none⟩ = some u) (h1 : y.k.agg = false → y.size = 1) :
    (loadVar t a).run P w = .ok (valOf P t us) w := by
  unfold loadVar
  rw [Sem.run_bind, run_isAgg hi.und, ← hi.k]
  simp only [Result.andThen_ok]
  unfold valOf
  rw [aggAt_k hi]
  cases hk : y.k.agg with
  | true =>
    simp only [if_true, Sem.run_bind, run_sizeOf hi.info, Result.andThen_ok]
    have := run_loadCells_list (P := P) w a us (fun j v hv => by rw [add_spot ha]; exact hu j v hv)
    rw [hl, hi.size] at this
    rw [this]
    rfl
  | false =>
    have h2 := h1 hk
    obtain ⟨u, rfl⟩ : ∃ u, us = [u] := by
      match us, hl.trans h2 with
      | [u], _ => exact ⟨u, rfl⟩
    have h0 := hu 0 u rfl
    have e : (⟨a.block, a.off + 0, none⟩ : Addr) = a := by cases a; simp_all
    rw [e] at h0
    simp [run_load, h0]

theorem list_of {α : Type} {n : Nat} {Q : Nat → α → Prop} (h : ∀ j, j < n → ∃ u, Q j u) : ∃ us : List α, us.length = n ∧ ∀ (j : Nat) (u : α), us[j]? = some u → Q j u := by
  induction n with
  | zero => exact ⟨[], rfl, fun j u hj => by simp at hj⟩
  | succ n ih =>
    obtain ⟨us, hl, hu⟩ := ih (fun j hj => h j (by omega))
    obtain ⟨u, hq⟩ := h n (by omega)
    refine ⟨us ++ [u], by simp [hl], fun j v hj => ?_⟩
    rcases Nat.lt_or_ge j n with hlt | hge
    · rw [List.getElem?_append_left (by omega)] at hj
      exact hu j v hj
    · have : j = n := by
        have := (List.getElem?_eq_some_iff.1 hj).1
        simp at this; omega
      subst this
      rw [List.getElem?_append_right (by omega), hl] at hj
      simp at hj
      subst hj
      exact hq

theorem ofCells_one {ag : Bool} {l : List V} {v : V} (h : ofCells ag l = some v) : ag = false → l.length = 1 := by
  unfold ofCells at h
  intro ha
  subst ha
  simp only [Bool.false_eq_true, if_false] at h
  split at h <;> simp_all

theorem cell_of_heap {b o : Nat} {arr : Array Value} {t : TypeId} {f : Nat × Nat} (h : w.heap[b]? = some (.cells arr t f)) : w.cell? ⟨b, o, none⟩ = arr[o]? := by
  simp [World.cell?, h]

theorem loadV_run {T : TypeId → Option Ty} (hT : ∀ t y, T t = some y → tyOf P t = some y) (hH : RepH w A bl H) {t : TypeId} {y : Ty} (ht : T t = some y) {x v : V} (h : loadV H y x = some v) {u : Value} (hu : RepV w A bl H x u) :
    ∃ r, (Instr.loadAt t u).run P w = .ok r w ∧ RepV w A bl H v r := by
  obtain ⟨i, d, hi⟩ := get_wf hT ht
  -- the common end
  have fin : ∀ {a : Addr} {l : List V}, a.spot = none → l.length = y.size → ofCells y.k.agg l = some v → (∀ (j : Nat) (z : V), l[j]? = some z → ∃ u, w.cell? ⟨a.block, a.off + j, none⟩ = some u ∧ RepV w A bl H z u) →
      ∃ r, (Instr.loadAt t (.pointer (some a))).run P w = .ok r w ∧ RepV w A bl H v r := by
    intro a l hs hl hv hc
    obtain ⟨us, hus, hq⟩ := list_of (n := y.size) (Q := fun j u => w.cell? ⟨a.block, a.off + j, none⟩ = some u ∧ ∀ z, l[j]? = some z → RepV w A bl H z u) (fun j hj => by
      obtain ⟨u, h1, h2⟩ := hc j l[j] (by simp [hl, hj])
      exact ⟨u, h1, fun z hz => by simp [hl, hj] at hz; subst hz; exact h2⟩)
    have hr := run_loadVar (P := P) (w := w) hi hs hus (fun j u hj => (hq j u hj).1) (fun hk => by rw [← hl]; exact ofCells_one hv hk)
    refine ⟨_, ?_, ofCells_rep (P := P) (t := t) (us := us) hv ⟨by omega, fun j z u hj hu => (hq j u hu).2 z hj⟩ (aggAt_k hi)⟩
    unfold Instr.loadAt
    simp only [Instr.sureAddr, Sem.run_bind, Sem.run_pure, Result.andThen_ok, hr]
  unfold loadV at h
  split at h
  · rename_i cs
    split at h
    case h_2 => simp at h
    rename_i l hl
    obtain ⟨a, rfl, hs, hc⟩ := hu.fp_inv
    obtain ⟨p1, p2, p3⟩ := part_len hl
    refine fin (a := a) hs (by simpa using p3) h fun j z hz => ?_
    simp only [List.getElem?_map, Option.map_eq_some_iff] at hz
    obtain ⟨x, hx, rfl⟩ := hz
    subst p2
    simp only [List.drop_zero, List.getElem?_take] at hx
    split at hx <;> (try simp at hx)
    obtain ⟨_, u, h1, h2⟩ := hc j x hx
    exact ⟨u, h1, .c _ _ h2⟩
  · rename_i i0 ep el o
    obtain ⟨a, rfl, g1, g2, g3, g4⟩ := hu.ptr_inv
    split at h
    · rename_i cs hcs
      split at h
      case isFalse => simp at h
      rename_i hel
      split at h
      case h_2 => simp at h
      rename_i l hl
      obtain ⟨p1, p2, p3⟩ := part_len hl
      obtain ⟨b, hb, ha⟩ := g3 cs hcs
      obtain rfl := ha hel
      obtain ⟨b', arr, t', k1, k2, k3, k4⟩ := hH.obj _ _ hcs
      rw [hb] at k1
      simp only [Option.some.injEq, Prod.mk.injEq, and_true] at k1
      subst k1
      refine fin (a := ⟨b, o, none⟩) rfl p3 h fun j z hz => ?_
      subst p2
      simp only [List.getElem?_take, List.getElem?_drop] at hz
      split at hz <;> (try simp at hz)
      have hlt := (List.getElem?_eq_some_iff.1 hz).1
      refine ⟨arr[o + j], ?_, k4 _ _ _ hz (by simp)⟩
      rw [cell_of_heap k2]; simp
    · rename_i z e xs hmem
      split at h
      case isFalse => simp at h
      rename_i he
      subst he
      split at h
      case h_2 => simp at h
      rename_i cs hcs
      split at h
      case h_2 => simp at h
      rename_i l hl
      obtain ⟨p1, p2, p3⟩ := part_len hl
      obtain ⟨b, d0, hb, rfl⟩ := g4 z xs hmem
      obtain ⟨k1, k2, k3⟩ := hH.obj _ _ hmem
      obtain ⟨arr, t', q1, q2, q3⟩ := k3 b d0 hb
      refine fin (a := ⟨b, d0 + el * z + o, none⟩) rfl (by simpa using p3) h fun j zz hz => ?_
      simp only [List.getElem?_map, Option.map_eq_some_iff] at hz
      obtain ⟨x, hx, rfl⟩ := hz
      subst p2
      simp only [List.getElem?_take, List.getElem?_drop] at hx
      split at hx <;> (try simp at hx)
      obtain ⟨u, hu1, hu2⟩ := q3 el (o + j) cs x hcs hx
      refine ⟨u, ?_, .c _ _ hu2⟩
      rw [cell_of_heap q1, ← hu1]
      congr 1
      show d0 + el * z + o + j = _
      omega
    · simp at h
  · simp at h

/-- One block written: what an own object's contents become. -/
theorem le_set (hH : RepH w A bl H) {i0 : Nat} {o o' : O} (hi : H[i0]? = some o) (hlive : o.live = true) {b0 d0 : Nat} (hb0 : bl i0 = some (b0, d0)) {arr arr' : Array Value} {t : TypeId} (hw : w.heap[b0]? = some (.cells arr t (0, 0))) (hs : arr'.size = arr.size)
    (hw' : w'.heap[b0]? = some (.cells arr' t (0, 0))) (hk : ∀ b, b ≠ b0 → w'.heap[b]? = w.heap[b]?)
    (hm : ∀ z e xs', o' = .mem z e xs' → ∃ e0 xs, o = .mem z e0 xs ∧ e0 ≤ e ∧ (e0 = e → xs.length = xs'.length)) (hb : ∀ cs', o' = .box cs' → ∃ cs, o = .box cs) (hy : ∀ r s, o' ≠ .yo r s := by intro r s h; cases h) :
    Le w A bl H w' A bl (H.set i0 o') := by
  have hilt : i0 < H.length := (List.getElem?_eq_some_iff.1 hi).1
  have hal : alive H i0 := ⟨o, hi, hlive⟩
  have hA : ∀ b, A b → b ≠ b0 := fun b hb e => by subst e; exact (hH.lt _ _ _ hal hb0).2 hb
  refine ⟨fun b hb => hk b (hA b hb), fun b hb => hb, by simp, fun i z e xs' hlt h => ?_, fun i cs' hlt h => ?_, fun i r s hlt h => ?_, rfl, fun i z e xs xs' b d n h0 _ hb hr => ?_⟩
  · rcases Nat.decEq i0 i with hne | rfl
    · rw [List.getElem?_set_ne hne] at h
      exact ⟨e, xs', h, Nat.le_refl _, fun _ => ⟨rfl, rfl⟩⟩
    · rw [List.getElem?_set_self hilt] at h
      simp only [Option.some.injEq] at h
      obtain ⟨e0, xs, rfl, h1, h2⟩ := hm z e xs' h
      exact ⟨e0, xs, hi, h1, fun he => ⟨h2 he, rfl⟩⟩
  · rcases Nat.decEq i0 i with hne | rfl
    · rw [List.getElem?_set_ne hne] at h
      exact ⟨cs', h, rfl⟩
    · rw [List.getElem?_set_self hilt] at h
      simp only [Option.some.injEq] at h
      obtain ⟨cs, rfl⟩ := hb cs' h
      exact ⟨cs, hi, rfl⟩
  · rcases Nat.decEq i0 i with hne | rfl
    · rw [List.getElem?_set_ne hne] at h
      exact ⟨r, s, h, rfl⟩
    · rw [List.getElem?_set_self hilt] at h
      simp only [Option.some.injEq] at h
      exact absurd h (hy r s)
  · rcases Nat.decEq b b0 with hne | rfl
    · rw [rowOf_keep (hk b hne)]; exact hr
    · simp only [rowOf, hw, hw', hs] at hr ⊢
      exact hr

/-- .. and the heap. -/
theorem rep_set (hH : RepH w A bl H) {i0 : Nat} {o o' : O} (hi : H[i0]? = some o) (hlive : o.live = true) {b0 d0 : Nat} (hb0 : bl i0 = some (b0, d0)) (hl : Le w A bl H w' A bl (H.set i0 o')) (hk : ∀ b, b ≠ b0 → w'.heap[b]? = w.heap[b]?) (hsz : w'.heap.size = w.heap.size)
    (ho : RepO w' A bl (H.set i0 o') i0 o') (hos : w'.os = w.os ∧ w'.tape = w.tape ∧ w'.output = w.output := by exact ⟨rfl, rfl, rfl⟩) : RepH w' A bl (H.set i0 o') := by
  have hilt : i0 < H.length := (List.getElem?_eq_some_iff.1 hi).1
  have hal : alive H i0 := ⟨o, hi, hlive⟩
  have old : ∀ {i}, alive (H.set i0 o') i → alive H i := by
    intro i ha
    rcases Nat.decEq i0 i with hne | rfl
    · obtain ⟨o2, h1, h2⟩ := ha
      rw [List.getElem?_set_ne hne] at h1
      exact ⟨o2, h1, h2⟩
    · exact hal
  have hX : ∀ c, bl.X c → c ≠ b0 := fun c hc e => by subst e; exact hH.xinj _ _ _ hal hb0 hc
  have hard : Ard w w' A bl bl := ⟨rfl, fun b hb => by rw [hsz]; exact hH.alt b hb, fun c hc => (hH.xlt c hc).2, fun c hc => hk c (hX c hc), by omega, hos.1, hos.2.1, hos.2.2⟩
  refine ⟨fun i o2 h => ?_, fun i j b d d' hij ha ha' => hH.inj i j b d d' hij (old ha) (old ha'), fun i b d ha hb => ?_, hard.alt, fun b hb => by rw [hsz]; exact hH.xlt b hb, fun i b d ha => hH.xinj i b d (old ha), hH.base.mono hl.A hl.C⟩
  · rcases Nat.decEq i0 i with hne | rfl
    · rw [List.getElem?_set_ne hne] at h
      cases hlv : o2.live with
      | false => cases o2 <;> simp [O.live] at hlv; trivial
      | true =>
        refine (hH.obj i o2 h).mono hl hard rfl (fun b d hb => hk b fun e => ?_) (fun b d hb => (hH.lt i b d ⟨o2, h, hlv⟩ hb).2)
        subst e
        exact hH.inj i0 i _ _ _ hne hal ⟨o2, h, hlv⟩ hb0 hb
    · rw [List.getElem?_set_self hilt] at h
      simp only [Option.some.injEq] at h
      subst h; exact ho
  · rw [hsz]; exact hH.lt i b d (old ha) hb

theorem liv_set {i0 : Nat} {o o' : O} (hi : H[i0]? = some o) (hlive : o.live = true) {b : Nat} (h : Liv bl (H.set i0 o') b) : Liv bl H b := by
  rcases h with ⟨i, d, ⟨o2, h1, h2⟩, hb⟩ | h
  · rcases Nat.decEq i0 i with hne | rfl
    · rw [List.getElem?_set_ne hne] at h1
      exact .inl ⟨i, d, ⟨o2, h1, h2⟩, hb⟩
    · exact .inl ⟨i0, d, ⟨o, hi, hlive⟩, hb⟩
  · exact .inr h

theorem splice_len {α : Type} {l ys : List α} {o : Nat} (h : o + ys.length ≤ l.length) : (splice l o ys).length = l.length := by
  simp [splice]; omega
theorem splice_get {α : Type} {l ys : List α} {o j : Nat} (h : o + ys.length ≤ l.length) : (splice l o ys)[j]? = if o ≤ j ∧ j < o + ys.length then ys[j - o]? else l[j]? := by
  unfold splice
  by_cases h1 : j < o
  · rw [if_neg (by omega), List.append_assoc, List.getElem?_append_left (by simp; omega), List.getElem?_take, if_pos h1]
  · by_cases h2 : j < o + ys.length
    · rw [if_pos (by omega), List.append_assoc, List.getElem?_append_right (by simp; omega), List.getElem?_append_left (by simp; omega)]
      congr 1; simp; omega
    · rw [if_neg (by omega), List.append_assoc, List.getElem?_append_right (by simp; omega), List.getElem?_append_right (by simp; omega), List.getElem?_drop]
      congr 1; simp; omega

theorem run_storeAt {t : TypeId} {y : Ty} {i : TypeInfo} {d : TypeDesc} (hi : TyIs P t y i d) {b o : Nat} {arr : Array Value} {tt : TypeId} (hw : w.heap[b]? = some (.cells arr tt (0, 0))) {x : Value} (hx : x.cells.size = y.size) (hfit : o + y.size ≤ arr.size) (h1 : ∀ u ∈ x.cells, u.oneCell' = true) :
    (Instr.storeAt t (.pointer (some ⟨b, o, none⟩)) x).run P w = .ok () (w.setRow b (splice arr.toList o x.cells.toList).toArray) := by
  have hs := run_storeCells_at (P := P) b o tt x.cells.toList 0 arr w hw (by simp; omega) (fun v hv => h1 v (by simpa using hv))
  unfold Instr.storeAt storeVar
  simp only [Instr.sureAddr, Sem.run_bind, Sem.run_pure, Result.andThen_ok, run_sizeOf hi.info, ← hi.size]
  rw [if_neg (by simp [hx])]
  simp only [Nat.add_zero] at hs
  exact hs

theorem storeV_run {T : TypeId → Option Ty} (hT : ∀ t y, T t = some y → tyOf P t = some y) (hH : RepH w A bl H) {t : TypeId} {y : Ty} (ht : T t = some y) {x v : V} {H' : Hp} (h : storeV H y x v = some H') {u r : Value} (hu : RepV w A bl H x u) (hr : RepV w A bl H v r) :
    ∃ w', (Instr.storeAt t u r).run P w = .ok () w' ∧ RepH w' A bl H' ∧ Le w A bl H w' A bl H' ∧ Evo w A (Liv bl H) w' A (Liv bl H') := by
  obtain ⟨i, d, hi⟩ := get_wf hT ht
  unfold storeV at h
  split at h
  case h_2 => simp at h
  rename_i i0 ep el o
  obtain ⟨a, rfl, g1, g2, g3, g4⟩ := hu.ptr_inv
  split at h
  · rename_i cs hcs
    split at h
    case isFalse => simp at h
    rename_i hc
    obtain ⟨c1, c2, c3, c4⟩ := hc
    simp only [Option.some.injEq] at h
    subst h
    obtain ⟨b, hb, ha⟩ := g3 cs hcs
    obtain rfl := ha c1
    obtain ⟨b', arr, t', k1, k2, k3, k4⟩ := hH.obj _ _ hcs
    rw [hb] at k1
    simp only [Option.some.injEq, Prod.mk.injEq, and_true] at k1
    subst k1
    obtain ⟨r1, r2, r3⟩ := hr.cells c4
    have hrun := run_storeAt (P := P) (w := w) (o := o) hi k2 (x := r) (by omega) (by omega) r3
    have hsl : (splice cs o v.cells).length = cs.length := splice_len (by omega)
    have hsa : (splice arr.toList o r.cells.toList).length = arr.size := by rw [splice_len]; simp; simp; omega
    have hw' := setRow_heap w b arr (splice arr.toList o r.cells.toList).toArray t' (0, 0) k2
    have hk : ∀ b', b' ≠ b → (w.setRow b (splice arr.toList o r.cells.toList).toArray).heap[b']? = w.heap[b']? := fun b' hne => Go.setRow_other w b b' _ hne
    have hle := le_set (o' := .box (splice cs o v.cells)) hH hcs rfl hb k2 (arr' := (splice arr.toList o r.cells.toList).toArray) (by simp [hsa]) hw' hk (fun z e xs' he => by cases he) (fun cs' _ => ⟨cs, rfl⟩)
    refine ⟨_, hrun, rep_set hH hcs rfl hb hle hk (by simp) ?_, hle, ?_⟩
    · refine ⟨b, _, t', hb, hw', by simp [hsa, hsl, k3], fun j x u hj hu => ?_⟩
      rw [splice_get (by omega)] at hj
      simp only [List.getElem?_toArray] at hu
      rw [splice_get (by simp; omega)] at hu
      simp only [Array.length_toList, r1] at hu
      split at hj
      · rename_i hin
        rw [if_pos hin] at hu
        exact (r2 _ _ _ hj (by simpa using hu)).mono hle
      · rename_i hin
        rw [if_neg hin] at hu
        exact (k4 j x u hj (by simpa using hu)).mono hle
    · exact ⟨rfl, rfl, rfl, by simp, fun b' _ hn => hk b' fun e => hn (e ▸ .inl ⟨i0, 0, ⟨_, hcs, rfl⟩, hb⟩), fun b' hb' => .inl (liv_set hcs rfl hb'), fun b' hb' => .inl hb'⟩
  · rename_i z e xs hmem
    split at h
    case isFalse => simp at h
    rename_i he
    subst he
    split at h
    case h_2 => simp at h
    rename_i cs l hcs hl
    split at h
    case isFalse => simp at h
    rename_i hc
    obtain ⟨c1, c2⟩ := hc
    simp only [Option.some.injEq] at h
    subst h
    obtain ⟨b, d0, hb, rfl⟩ := g4 z xs hmem
    obtain ⟨k1, k2, k3⟩ := hH.obj _ _ hmem
    obtain ⟨arr, t', q1, q2, q3⟩ := k3 b d0 hb
    have hz : cs.length = z := k1 cs (List.mem_of_getElem? hcs)
    have hlt := (List.getElem?_eq_some_iff.1 hcs).1
    have hpl : ∀ {l : List V} {m : List C}, pureL l = some m → l = m.map .c := by
      intro l
      induction l with
      | nil => intro m h; simp [pureL] at h; subst h; rfl
      | cons x l ih =>
        intro m h
        cases x <;> simp only [pureL, reduceCtorEq] at h
        split at h <;> simp only [Option.some.injEq, reduceCtorEq] at h
        subst h
        rw [ih ‹_›]; rfl
    have hvc := hpl hl
    have hall : v.cells.all V.one = true := by rw [hvc]; simp [V.one]
    obtain ⟨r1, r2, r3⟩ := hr.cells hall
    have hrl : r.cells.size = l.length := by rw [r1, hvc]; simp
    have hmul : el * z + z ≤ xs.length * z := by
      have : (el + 1) * z ≤ xs.length * z := Nat.mul_le_mul_right _ hlt
      rw [Nat.add_mul] at this; omega
    have hrun := run_storeAt (P := P) (w := w) (o := d0 + el * z + o) hi q1 (x := r) (by omega) (by omega) r3
    have hsa : (splice arr.toList (d0 + el * z + o) r.cells.toList).length = arr.size := by rw [splice_len]; simp; simp; omega
    have hw' := setRow_heap w b arr (splice arr.toList (d0 + el * z + o) r.cells.toList).toArray t' (0, 0) q1
    have hk : ∀ b', b' ≠ b → (w.setRow b (splice arr.toList (d0 + el * z + o) r.cells.toList).toArray).heap[b']? = w.heap[b']? := fun b' hne => Go.setRow_other w b b' _ hne
    have hle := le_set (o' := .mem z e (xs.set el (splice cs o l))) hH hmem rfl hb q1 (arr' := (splice arr.toList (d0 + el * z + o) r.cells.toList).toArray) (by simp [hsa]) hw' hk (fun z' e' xs' h' => by
      simp only [O.mem.injEq] at h'
      obtain ⟨rfl, rfl, rfl⟩ := h'
      exact ⟨e, xs, rfl, Nat.le_refl _, fun _ => by simp⟩) (fun cs' h' => by cases h')
    refine ⟨_, hrun, rep_set hH hmem rfl hb hle hk (by simp) ?_, hle, ?_⟩
    · refine ⟨fun c hc => ?_, fun hn => (by rw [hb] at hn; cases hn), fun b1 d1 hb1 => ?_⟩
      · rcases List.mem_or_eq_of_mem_set hc with h | h
        · exact k1 c h
        · rw [h, splice_len (by omega), hz]
      · rw [hb] at hb1
        simp only [Option.some.injEq, Prod.mk.injEq] at hb1
        obtain ⟨rfl, rfl⟩ := hb1
        refine ⟨_, t', hw', by simp [hsa]; omega, fun k j c x hk' hj => ?_⟩
        have hcl : c.length = z := by
          rcases List.mem_or_eq_of_mem_set (List.mem_of_getElem? hk') with h | h
          · exact k1 c h
          · rw [h, splice_len (by omega), hz]
        have hjz : j < z := hcl ▸ (List.getElem?_eq_some_iff.1 hj).1
        simp only [List.getElem?_toArray]
        rw [splice_get (by simp; omega)]
        simp only [Array.length_toList, hrl]
        rcases Nat.decEq el k with hne | rfl
        · rw [List.getElem?_set_ne hne] at hk'
          have hout : ¬ (d0 + el * z + o ≤ d0 + k * z + j ∧ d0 + k * z + j < d0 + el * z + o + l.length) := by
            intro ⟨h1, h2⟩
            rcases Nat.lt_or_ge el k with hlt | hge
            · have : (el + 1) * z ≤ k * z := Nat.mul_le_mul_right _ hlt
              rw [Nat.add_mul] at this; omega
            · have : (k + 1) * z ≤ el * z := Nat.mul_le_mul_right _ (by omega)
              rw [Nat.add_mul] at this; omega
          rw [if_neg hout]
          obtain ⟨u, hu1, hu2⟩ := q3 k j c x hk' hj
          exact ⟨u, by simpa using hu1, hu2.mono hle.C hle.A⟩
        · rw [List.getElem?_set_self hlt] at hk'
          simp only [Option.some.injEq] at hk'
          subst hk'
          rw [splice_get (by omega)] at hj
          split at hj
          · rename_i hin
            rw [if_pos (by omega)]
            have e1 : d0 + el * z + j - (d0 + el * z + o) = j - o := by omega
            rw [e1]
            have hjl : j - o < l.length := by omega
            have hx := r2 (j - o) (.c x) (r.cells[j - o]'(by omega)) (by rw [hvc]; simp [hj]) (by simp)
            cases hx with | c _ _ hx =>
            exact ⟨r.cells[j - o]'(by omega), by simp, hx.mono hle.C hle.A⟩
          · rename_i hin
            rw [if_neg (by omega)]
            obtain ⟨u, hu1, hu2⟩ := q3 el j cs x hcs hj
            exact ⟨u, by simpa using hu1, hu2.mono hle.C hle.A⟩
    · exact ⟨rfl, rfl, rfl, by simp, fun b' _ hn => hk b' fun e => hn (e ▸ .inl ⟨i0, d0, ⟨_, hmem, rfl⟩, hb⟩), fun b' hb' => .inl (liv_set hmem rfl hb'), fun b' hb' => .inl hb'⟩
  · simp at h
end
end Go.Ev
