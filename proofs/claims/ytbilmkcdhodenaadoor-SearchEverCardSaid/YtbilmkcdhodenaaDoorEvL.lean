/-
  EV, part L: a law: from what its arguments read as to what the interpreter is asked, and back to the row.
-/
import Derived.Test.YtbilmkcdhodenaaDoorEvU
import Derived.WalkKit
import Derived.ProofKit
import Derived.Carry
set_option linter.all false
set_option linter.unusedSimpArgs false
set_option linter.unusedVariables false
namespace Go.Ev
open Go.ChangeShapes Go.WideShapes Go.ChangeAt Go.RowKit

/-- What may stand in the cells of a type. -/
def Rd (P : Program) : Nat → TypeId → List C → Prop
  | 0, _, _ => False
  | n + 1, t, xs => match P.underlying t with
    | some .bool => ∃ b, xs = [.bool b]
    | some (.int k) => ∃ v, xs = [.int k v] ∧ (Lit.int k v).wf = true
    | some .string => ∃ s, xs = [.str s] ∧ s.length ≤ maxLen
    | some (.slice e) => ∃ ys, xs = [.sl (P.cellsOf e) none false ys] ∧ ys.length ≤ maxLen ∧ ∀ y ∈ ys, Rd P n e y
    | some (.struct fs) => ∃ parts : List (List C), parts.length = fs.toList.length ∧ xs = parts.flatten ∧ ∀ (j : Nat) (f : Field) (y : List C), fs.toList[j]? = some f → parts[j]? = some y → Rd P n f.type y
    | _ => False

def inRow (P : Program) : Nat → List Field → Nat → Bool
  | off, [], m => off == m
  | off, f :: r, m => f.offset == off && inRow P (off + P.cellsOf f.type) r m
/-- A closed fact: these types lead only to each other, and are read as Rd says. -/
def plainT (P : Program) (l : List TypeId) (t : TypeId) : Bool := match P.underlying t with
  | some .bool | some (.int _) | some .string => true
  | some (.slice e) => decide (0 < P.cellsOf e) && l.contains e
  | some (.struct fs) => inRow P 0 fs.toList (P.cellsOf t) && fs.toList.all fun f => l.contains f.type
  | _ => false
def plainL (P : Program) (l : List TypeId) : Bool := l.all (plainT P l)

section
variable {P : Program} {H : Type} {enc : TypeId × Value → H} {W : World}

def Held (W : World) (b : Nat) : Prop := b < W.heap.size

/-- Cells that read as they do. -/
def RepCs (W : World) (xs : List C) (cs : List Value) : Prop := xs.length = cs.length ∧ ∀ (j : Nat) (x : C) (u : Value), xs[j]? = some x → cs[j]? = some u → RepC W (Held W) x u

theorem mapM_get {α β : Type} {f : α → Option β} : ∀ {l : List α} {m : List β}, l.mapM f = some m → m.length = l.length ∧ ∀ (j : Nat) (x : α), l[j]? = some x → ∃ y, m[j]? = some y ∧ f x = some y
  | [], m, h => by simp at h; subst h; simp
  | x :: l, m, h => by
    simp only [List.mapM_cons, Option.pure_def, Option.bind_eq_bind, Option.bind_eq_some_iff, Option.some.injEq] at h
    obtain ⟨y, hy, m', hm, rfl⟩ := h
    obtain ⟨h1, h2⟩ := mapM_get hm
    refine ⟨by simp [h1], fun j z hz => ?_⟩
    cases j with
    | zero => simp at hz; subst hz; exact ⟨y, rfl, hy⟩
    | succ j => exact h2 j z (by simpa using hz)

theorem cell_spot {a : Addr} {u : Value} (h : W.cell? a = some u) : a.spot = none ∧ a.block < W.heap.size := by
  unfold World.cell? at h
  split at h
  · rename_i hb
    split at h
    · simp at h
    · rename_i hs
      exact ⟨by cases hh : a.spot <;> simp [hh] at hs; rfl, (Array.getElem?_eq_some_iff.1 hb).1⟩
  · simp at h

theorem cells_get {base n : Nat} {a : Addr} {cs : List Value} (h : W.cells? base a n = some cs) : cs.length = n ∧ ∀ j, j < n → ∃ u, cs[j]? = some u ∧ W.cell? (a.add j) = some u := by
  unfold World.cells? at h
  split at h
  · obtain ⟨h1, h2⟩ := mapM_get h
    refine ⟨by simpa using h1, fun j hj => ?_⟩
    exact h2 j j (by simp [hj])
  · simp at h

theorem parts_join : ∀ {fs : List Field} {parts : List (List C)} {cs : List Value} {off m : Nat}, inRow P off fs m = true → m ≤ cs.length → parts.length = fs.length →
    (∀ (j : Nat) (f : Field) (y : List C), fs[j]? = some f → parts[j]? = some y → RepCs W y ((cs.drop f.offset).take (P.cellsOf f.type))) → RepCs W parts.flatten ((cs.drop off).take (m - off)) ∧ off ≤ m
  | [], [], cs, off, m, h, _, _, _ => by
    simp only [inRow, beq_iff_eq] at h
    subst h
    exact ⟨⟨by simp, fun j x u hx => by simp at hx⟩, Nat.le_refl _⟩
  | f :: fs, y :: parts, cs, off, m, h, hm, hl, hp => by
    simp only [inRow, Bool.and_eq_true, beq_iff_eq] at h
    obtain ⟨h1, h2⟩ := h
    subst h1
    obtain ⟨⟨q1, q2⟩, q3⟩ := parts_join (cs := cs) h2 hm (by simpa using hl) (fun j g z hg hz => hp (j + 1) g z (by simpa using hg) (by simpa using hz))
    obtain ⟨k1, k2⟩ := hp 0 f y rfl rfl
    have hy : y.length = P.cellsOf f.type := by rw [k1]; simp; omega
    refine ⟨⟨by simp at q1 ⊢; omega, fun j x u hx hu => ?_⟩, by omega⟩
    rw [List.flatten_cons] at hx
    rcases Nat.lt_or_ge j y.length with hj | hj
    · rw [List.getElem?_append_left hj] at hx
      refine k2 j x u hx ?_
      rw [List.getElem?_take] at hu ⊢
      rw [if_pos (by omega)]
      split at hu
      · exact hu
      · simp at hu
    · rw [List.getElem?_append_right hj] at hx
      refine q2 (j - y.length) x u hx ?_
      rw [List.getElem?_take, List.getElem?_drop] at hu ⊢
      split at hu
      · rw [if_pos (by omega), ← hu]
        congr 1; omega
      · simp at hu

/-- What is read may be handed to the interpreter. -/
theorem trod_rep {l : List TypeId} (hpl : plainL P l = true) : ∀ (n : Nat) {t : TypeId} {cs : List Value} {base : Nat} {held : Bool} {d : DataW H} {p : List MemPlace}, l.contains t = true → DataW.trod enc P W base (fun _ => true) held n t cs = some (d, p) → ∃ xs, Rd P n t xs ∧ RepCs W xs cs
  | 0, t, cs, base, held, d, p, h, ht => by simp [DataW.trod] at ht
  | fuel + 1, t, cs, base, held, d, p, h, ht => by
    replace h : plainT P l t = true := List.all_eq_true.1 hpl t (by simpa using h)
    have one : ∀ {x : C} {u : Value}, RepC W (Held W) x u → RepCs W [x] [u] := fun hx => ⟨rfl, fun j y v hy hv => by
      cases j with
      | zero => simp at hy hv; subst hy; subst hv; exact hx
      | succ j => simp at hy⟩
    simp only [plainT] at h
    simp only [Rd]
    cases hu : P.underlying t with
    | none => simp [hu] at h
    | some desc =>
      simp only [hu] at h ⊢
      cases desc with
      | bool =>
        obtain ⟨b, rfl⟩ : ∃ b, cs = [.bool b] := by
          rcases cs with _ | ⟨u, _ | ⟨u2, r⟩⟩
          · simp [DataW.trod, hu] at ht
          · cases u <;> first | exact ⟨_, rfl⟩ | simp [DataW.trod, hu] at ht
          · simp [DataW.trod, hu] at ht
        exact ⟨_, ⟨_, rfl⟩, one (.bool _)⟩
      | int k =>
        obtain ⟨v, rfl, hw⟩ : ∃ v, cs = [.int k v] ∧ (Lit.int k v).wf = true := by
          rcases cs with _ | ⟨u, _ | ⟨u2, r⟩⟩
          · simp [DataW.trod, hu] at ht
          · cases u <;> first | (simp [DataW.trod, hu] at ht; done) | skip
            simp only [DataW.trod, hu] at ht
            split at ht
            · rename_i hc
              obtain ⟨rfl, hw⟩ := hc
              exact ⟨_, rfl, hw⟩
            · simp at ht
          · simp [DataW.trod, hu] at ht
        exact ⟨_, ⟨_, rfl, hw⟩, one (.int _ _)⟩
      | string =>
        obtain ⟨s, rfl, hw⟩ : ∃ s, cs = [.string s] ∧ s.size ≤ maxLen := by
          rcases cs with _ | ⟨u, _ | ⟨u2, r⟩⟩
          · simp [DataW.trod, hu] at ht
          · cases u <;> first | (simp [DataW.trod, hu] at ht; done) | skip
            simp only [DataW.trod, hu] at ht
            split at ht
            · exact ⟨_, rfl, ‹_›⟩
            · simp at ht
          · simp [DataW.trod, hu] at ht
        have e : s.data.toList.length = s.size := Array.length_toList
        refine ⟨_, ⟨s.data.toList, rfl, Nat.le_trans (Nat.le_of_eq e) hw⟩, one ?_⟩
        have := RepC.str (w := W) (A := Held W) s.data.toList
        simpa using this
      | slice e =>
        simp only [Bool.and_eq_true, decide_eq_true_eq] at h
        obtain ⟨hz, he⟩ := h
        have hcs : cs = [.slice none 0 0] ∨ ∃ a len cap, cs = [.slice (some a) len cap] := by
          rcases cs with _ | ⟨u, _ | ⟨u2, r⟩⟩
          · simp [DataW.trod, hu] at ht
          · cases u <;> first | (simp [DataW.trod, hu] at ht; done) | skip
            rename_i b len cap
            cases b with
            | some a => exact .inr ⟨_, _, _, rfl⟩
            | none => cases len <;> cases cap <;> first | exact .inl rfl | (simp [DataW.trod, hu] at ht; done)
          · simp [DataW.trod, hu] at ht
        rcases hcs with rfl | ⟨a, len, cap, rfl⟩
        · exact ⟨_, ⟨[], rfl, Nat.zero_le _, by simp⟩, one (.slnil _ _ _ (by simp))⟩
        · simp only [DataW.trod, hu] at ht
          split at ht
          case isFalse => simp at ht
          rename_i hc
          obtain ⟨hb, hlc, hcm⟩ := hc
          simp only [if_true, Option.bind_eq_some_iff, Option.map_eq_some_iff] at ht
          obtain ⟨elems, hel, rest, hrest, hd⟩ := ht
          obtain ⟨g1, g2⟩ := mapM_get hel
          obtain ⟨r1, r2⟩ := mapM_get hrest
          have first_ : ∀ {i : Nat} {x : DataW H × List MemPlace}, ((W.cells? base (a.add (i * P.cellsOf e)) (P.cellsOf e)).bind (DataW.trod enc P W base (fun _ => true) held fuel e)) = some x →
              ∃ csi, csi.length = P.cellsOf e ∧ (∀ j, j < P.cellsOf e → ∃ u, csi[j]? = some u ∧ W.cell? ((a.add (i * P.cellsOf e)).add j) = some u) ∧ DataW.trod enc P W base (fun _ => true) held fuel e csi = some x := by
            intro i x hx
            simp only [Option.bind_eq_some_iff] at hx
            obtain ⟨csi, h1, h2⟩ := hx
            obtain ⟨q1, q2⟩ := cells_get h1
            exact ⟨csi, q1, q2, h2⟩
          have spot0 : ∀ {x : DataW H × List MemPlace}, ((W.cells? base (a.add (0 * P.cellsOf e)) (P.cellsOf e)).bind (DataW.trod enc P W base (fun _ => true) held fuel e)) = some x → a.spot = none := by
            intro x hx
            obtain ⟨csi, _, q2, _⟩ := first_ hx
            obtain ⟨u, _, hu⟩ := q2 0 hz
            have := (cell_spot hu).1
            simpa [Addr.add] using this
          have hspot : cap ≠ 0 → a.spot = none := by
            intro hc0
            rcases Nat.eq_zero_or_pos len with h0 | h0
            · obtain ⟨y, _, hy⟩ := r2 0 0 (List.getElem?_range (by omega))
              rw [h0] at hy
              exact spot0 hy
            · obtain ⟨y, _, hy⟩ := g2 0 0 (by simp [h0])
              exact spot0 hy
          have each : ∀ i : Nat, ∃ xs : List C, i < len → Rd P fuel e xs ∧ xs.length = P.cellsOf e ∧ ∀ (j : Nat) (x : C), xs[j]? = some x → ∃ u, W.cell? ⟨a.block, a.off + i * P.cellsOf e + j, none⟩ = some u ∧ RepC W (Held W) x u := by
            intro i
            by_cases hi : i < len
            · obtain ⟨y, _, hy⟩ := g2 i i (by simp [hi])
              obtain ⟨csi, q1, q2, q3⟩ := first_ hy
              obtain ⟨xs, k1, k2, k3⟩ := trod_rep hpl fuel (d := y.1) (p := y.2) he q3
              refine ⟨xs, fun _ => ⟨k1, k2.trans q1, fun j x hx => ?_⟩⟩
              have hj := (List.getElem?_eq_some_iff.1 hx).1
              obtain ⟨u, hu1, hu2⟩ := q2 j (by omega)
              refine ⟨u, ?_, k3 j x u hx hu1⟩
              rw [add_spot (hspot (by omega)), add_spot rfl] at hu2
              exact hu2
            · exact ⟨[], fun h => absurd h hi⟩
          obtain ⟨f, hf⟩ := Classical.skolem.1 each
          have hlen : ((List.range len).map f).length = len := by simp
          have at_ : ∀ (i : Nat) (y : List C), ((List.range len).map f)[i]? = some y → i < len ∧ y = f i := by
            intro i y hy
            have hi := (List.getElem?_eq_some_iff.1 hy).1
            simp at hi
            simp [hi] at hy
            exact ⟨hi, hy.symm⟩
          refine ⟨_, ⟨(List.range len).map f, rfl, by rw [hlen]; omega, fun y hy => ?_⟩, one ?_⟩
          · obtain ⟨i, hi, rfl⟩ := List.mem_map.1 hy
            exact (hf i (by simpa using hi)).1
          · have := RepC.sl (w := W) (A := Held W) (P.cellsOf e) none false ((List.range len).map f) a cap (fun i j => (W.cell? ⟨a.block, a.off + i * P.cellsOf e + j, none⟩).getD Go.undef) hspot (by simp) (by simp) (by rw [hlen]; exact hlc)
              (fun cs hcs => by obtain ⟨i, hi, rfl⟩ := List.mem_map.1 hcs; exact (hf i (by simpa using hi)).2.1)
              (fun i j y x hy hx => by
                obtain ⟨hi, rfl⟩ := at_ i y hy
                obtain ⟨u, hu1, _⟩ := (hf i hi).2.2 j x hx
                exact ⟨(cell_spot hu1).2, by rw [hu1]; rfl⟩)
              (fun i j y x hy hx => by
                obtain ⟨hi, rfl⟩ := at_ i y hy
                obtain ⟨u, hu1, hu2⟩ := (hf i hi).2.2 j x hx
                rw [hu1]; exact hu2)
            rw [hlen] at this
            exact this
      | struct fs =>
        simp only [Bool.and_eq_true, List.all_eq_true] at h
        obtain ⟨hrow, hall⟩ := h
        simp only [DataW.trod, hu] at ht
        split at ht
        case isFalse => simp at ht
        rename_i hc
        simp only [Option.map_eq_some_iff] at ht
        obtain ⟨xs, hxs, _⟩ := ht
        obtain ⟨g1, g2⟩ := mapM_get hxs
        have each : ∀ j : Nat, ∃ y : List C, ∀ f, fs.toList[j]? = some f → Rd P fuel f.type y ∧ RepCs W y ((cs.drop f.offset).take (P.cellsOf f.type)) := by
          intro j
          cases hj : fs.toList[j]? with
          | none => exact ⟨[], fun f h => by simp at h⟩
          | some f =>
            obtain ⟨y, _, hy⟩ := g2 j f hj
            obtain ⟨zs, k1, k2⟩ := trod_rep hpl fuel (d := y.1) (p := y.2) (hall f (List.mem_of_getElem? hj)) hy
            exact ⟨zs, fun f' h' => by simp only [Option.some.injEq] at h'; subst h'; exact ⟨k1, k2⟩⟩
        obtain ⟨f, hf⟩ := Classical.skolem.1 each
        have hlen : ((List.range fs.toList.length).map f).length = fs.toList.length := by simp
        have at_ : ∀ (i : Nat) (y : List C), ((List.range fs.toList.length).map f)[i]? = some y → y = f i := by
          intro i y hy
          have hi := (List.getElem?_eq_some_iff.1 hy).1
          simp at hi
          simp [hi] at hy
          exact hy.symm
        refine ⟨_, ⟨(List.range fs.toList.length).map f, hlen, rfl, fun j g y hg hy => by rw [at_ j y hy]; exact (hf j g hg).1⟩, ?_⟩
        obtain ⟨q, _⟩ := parts_join (P := P) (W := W) (cs := cs) hrow (by omega) hlen (fun j g y hg hy => by rw [at_ j y hy]; exact (hf j g hg).2)
        simpa [← hc] using q
      | _ => simp at h

/-- An argument, as the interpreter takes it. -/
def argV (P : Program) (t : TypeId) (xs : List C) : V := match aggAt P t with
  | true => .agg (xs.map .c)
  | false => match xs with
    | [x] => .c x
    | _ => .junk
/-- Nothing is anybody's. -/
def noBl (K : World → Prop) : Bl := { loc := fun _ => none, X := fun _ => False, cx := { K := K, Y := fun _ _ _ _ _ _ => False, stable := fun h => h.elim } }
theorem noBl_ok {K : World → Prop} : CtxOk P K (noBl K).cx := ⟨fun _ h => h, fun h => h.elim⟩
theorem noBl_rep {K : World → Prop} (hK : K W) : RepH W (Held W) (noBl K) [] :=
  ⟨fun i o h => by simp at h, fun i j b d d' _ h => by obtain ⟨o, h, _⟩ := h; simp at h, fun i b d h => by obtain ⟨o, h, _⟩ := h; simp at h, fun b h => h, fun b h => h.elim, fun i b d h => by obtain ⟨o, h, _⟩ := h; simp at h, W, hK, fun b hb => ⟨hb, rfl⟩⟩
theorem noBl_liv {K : World → Prop} {b : Nat} : ¬ Liv (noBl K) [] b := fun h => h.elim (fun ⟨i, d, ⟨o, h, _⟩, _⟩ => by simp at h) fun h => h

/-- Arguments of these types, whatever they read as. -/
def Args (P : Program) : List TypeId → List V → Prop
  | [], [] => True
  | t :: ts, v :: vs => (∃ n xs, Rd P n t xs ∧ v = argV P t xs) ∧ Args P ts vs
  | _, _ => False

theorem arg_rep {K : World → Prop} {l : List TypeId} {base : Nat} {t : TypeId} {v : Value} {d : DataW H} {p : List MemPlace} (hpl : plainL P l = true) (hp : l.contains t = true) (h : DataW.Trod enc P W 0 (fun _ => true) true t v d p) (hok : Value.okWide P W .any base t v) :
    ∃ n xs, Rd P n t xs ∧ RepV W (Held W) (noBl K) [] (argV P t xs) v := by
  obtain ⟨fuel, h⟩ := h
  obtain ⟨xs, h1, h2, h3⟩ := trod_rep hpl fuel hp h
  refine ⟨fuel, xs, h1, ?_⟩
  replace hp : plainT P l t = true := List.all_eq_true.1 hpl t (by simpa using hp)
  have single : aggAt P t = false → v.cells = #[v] → RepV W (Held W) (noBl K) [] (argV P t xs) v := by
    intro ha hv
    rw [hv] at h2 h3
    match xs, h2 with
    | [x], _ =>
      simp only [argV, ha]
      exact .c _ _ (h3 0 x v rfl rfl)
  simp only [plainT] at hp
  cases hu : P.underlying t with
  | none => simp [hu] at hp
  | some desc =>
    cases desc <;> simp only [hu] at hp <;> try (simp at hp; done)
    case struct fs =>
      simp only [Value.okWide, hu] at hok
      obtain ⟨cs, rfl, _⟩ := hok
      have ha : aggAt P t = true := by simp [aggAt, hu]
      simp only [argV, ha]
      refine .agg _ _ (by simpa [Value.cells] using h2) fun j x u hj hu' => ?_
      simp only [List.getElem?_map, Option.map_eq_some_iff] at hj
      obtain ⟨y, hy, rfl⟩ := hj
      exact .c _ _ (h3 j y u hy (by simpa [Value.cells] using hu'))
    all_goals
      refine single (by simp [aggAt, hu]) ?_
      cases v <;> first | rfl | (exfalso; simp [Value.okWide, Cell.okWide, Cell.ok, hu] at hok)

theorem args_rep {K : World → Prop} {l : List TypeId} (hpl : plainL P l = true) {base : Nat} : ∀ {ts : List TypeId} {vs : List Value} {ds : List (DataW H)} {p : List MemPlace}, (∀ t ∈ ts, l.contains t = true) → DataW.TrodAll enc P W 0 (fun _ => true) true ts vs ds p →
    (∀ (j : Nat) t v, ts[j]? = some t → vs[j]? = some v → Value.okWide P W .any base t v) → ds.length = ts.length ∧ ∃ as, Args P ts as ∧ RepL W (Held W) (noBl K) [] as vs
  | [], [], [], _, _, _, _ => ⟨rfl, [], trivial, rfl, fun j x u hj => by simp at hj⟩
  | t :: ts, v :: vs, d :: ds, p, hp, h, hok => by
    obtain ⟨p1, q, h1, h2, _⟩ := h
    obtain ⟨n, xs, k1, k2⟩ := arg_rep hpl (hp t (by simp)) h1 (hok 0 t v rfl rfl)
    obtain ⟨hl, as, q1, q2, q3⟩ := args_rep hpl (fun t ht => hp t (by simp [ht])) h2 (fun j t v ht hv => hok (j + 1) t v (by simpa using ht) (by simpa using hv))
    refine ⟨by simp [hl], argV P t xs :: as, ⟨⟨n, xs, k1, rfl⟩, q1⟩, by simp [q2], fun j x u hj hu => ?_⟩
    cases j with
    | zero => simp at hj hu; subst hj; subst hu; exact k2
    | succ j => exact q3 j x u (by simpa using hj) (by simpa using hu)
  | [], _ :: _, _, _, _, h, _ => by simp [DataW.TrodAll] at h
  | [], [], _ :: _, _, _, h, _ => by simp [DataW.TrodAll] at h
  | _ :: _, [], _, _, _, h, _ => by simp [DataW.TrodAll] at h
  | _ :: _, _ :: _, [], _, _, h, _ => by simp [DataW.TrodAll] at h

theorem stay_all (hl : laidOutB P = true) {W' : World} (hb : Below W.heap.size W W') : ∀ {ts : List TypeId} {vs : List Value} {ds : List (DataW H)} {p : List MemPlace}, (∀ t ∈ ts, P.readableRec t = true ∧ t < P.types.size) → (∀ x ∈ p, x.block < W.heap.size) →
    DataW.TrodAll enc P W 0 (fun _ => true) true ts vs ds p → DataW.TrodAll enc P W' 0 (fun b => decide (b < W.heap.size)) true ts vs ds p
  | [], [], [], _, _, _, h => h
  | t :: ts, v :: vs, d :: ds, p, hr, hlt, h => by
    obtain ⟨p1, q, h1, h2, rfl⟩ := h
    obtain ⟨r1, r2⟩ := hr t (by simp)
    exact ⟨p1, q, Below.trod hl r1 r2 h1 hb (fun x hx => hlt x (by simp [hx])), stay_all hl hb (fun t ht => hr t (by simp [ht])) (fun x hx => hlt x (by simp [hx])) h2, rfl⟩
  | [], _ :: _, _, _, _, _, h => by simp [DataW.TrodAll] at h
  | [], [], _ :: _, _, _, _, h => by simp [DataW.TrodAll] at h
  | _ :: _, [], _, _, _, _, h => by simp [DataW.TrodAll] at h
  | _ :: _, _ :: _, [], _, _, _, h => by simp [DataW.TrodAll] at h

theorem below_frozen {W' : World} (hb : Below W.heap.size W W') {b off : Nat} (h : b < W.heap.size) : W'.frozen? ⟨b, off, none⟩ = W.frozen? ⟨b, off, none⟩ := by
  simp only [World.frozen?, hb.block b h]

theorem stay_any (hl : laidOutB P = true) {W' : World} (hb : Below W.heap.size W W') {sp : Nat → Bool} : ∀ {ts : List TypeId} {vs : List Value} {ds : List (DataW H)} {p : List MemPlace}, (∀ t ∈ ts, P.readableRec t = true ∧ t < P.types.size) → (∀ x ∈ p, x.block < W.heap.size) → (∀ x ∈ p, sp x.block = true) →
    DataW.TrodAll enc P W 0 (fun _ => true) true ts vs ds p → DataW.TrodAll enc P W' 0 sp true ts vs ds p
  | [], [], [], _, _, _, _, h => h
  | t :: ts, v :: vs, d :: ds, p, hr, hlt, hs, h => by
    obtain ⟨p1, q, h1, h2, rfl⟩ := h
    obtain ⟨r1, r2⟩ := hr t (by simp)
    exact ⟨p1, q, WideElems.Trod_stays hl r1 r2 h1 (fun x hx => hb.same (hlt x (by simp [hx]))) (fun x hx => hs x (by simp [hx])), stay_any hl hb (fun t ht => hr t (by simp [ht])) (fun x hx => hlt x (by simp [hx])) (fun x hx => hs x (by simp [hx])) h2, rfl⟩
  | [], _ :: _, _, _, _, _, _, h => by simp [DataW.TrodAll] at h
  | [], [], _ :: _, _, _, _, _, h => by simp [DataW.TrodAll] at h
  | _ :: _, [], _, _, _, _, _, h => by simp [DataW.TrodAll] at h
  | _ :: _, _ :: _, [], _, _, _, _, h => by simp [DataW.TrodAll] at h

/-- A law that the interpreter answers true, whatever the arguments, keeps its row. -/
theorem law_contract {E : Env} {K : World → Prop} (hdraw : DrawOk P K) (hE : EnvOk P K E) {f : FuncId} {fn : Func} {l : List TypeId} {s : ChangeSpec} (hl : laidOutB P = true) (hpl : plainL P l = true) (hpar : (fn.params.toList.all fun t => l.contains t && (P.readableRec t && decide (t < P.types.size))) = true)
    {tb : TypeId} (hres : fn.resultTypes = #[tb]) (htb : P.underlying tb = some .bool) (hvars : s.vars = []) (hs : ∀ ds : List (DataW H), ds.length = fn.params.toList.length → s.fn H ds = { results := [.lit (.bool true)], args := ds })
    (main : ∀ as, Args P fn.params.toList as → call E f as [] = some ([V.b true], [])) (W : World) (hK : K W) (base : Nat) (args : Array Value) (ds gs : List (DataW H)) (before : List MemPlace)
    (hval : ∀ (j : Nat) t v, fn.params[j]? = some t → args[j]? = some v → Value.okWide P W .any base t v) (hW : DataW.Whole enc P fn.params.toList s.vars false W args.toList ds gs before) :
    Calls P f args W fun e W' => ∃ v, e = .returned v ∧ s.post enc P fn false true false false W args v W' := by
  have hW0 := hW
  have hlt := hW.lt
  obtain ⟨p, q, hA, hV, rfl, hfz, hnd⟩ := hW
  rw [hvars] at hV
  obtain ⟨rfl, rfl⟩ := trodVars_none hV
  simp only [List.all_eq_true, Bool.and_eq_true, decide_eq_true_eq] at hpar
  obtain ⟨hlen, as, ha1, ha2⟩ := args_rep (K := K) hpl (base := base) (fun t ht => (hpar t ht).1) hA (fun j t v ht hv => hval j t v (by simpa using ht) (by simpa using hv))
  have hc := (call_sound hdraw hE f as [] _ _ (main as ha1)).2 W (Held W) (noBl K) args.toList noBl_ok (noBl_rep hK) ha2
  rw [Array.toArray_toList] at hc
  refine hc.mono ?_
  rintro e W' ⟨A', bl', rs, rfl, ⟨r1, r2⟩, _, _, he⟩
  have hrs : rs = [.bool true] := by
    match rs, r1 with
    | [r], _ =>
      have := r2 0 _ r rfl rfl
      rw [this.bool_inv]
  subst hrs
  have hb : Below W.heap.size W W' := ⟨he.os, he.tape, he.output, he.size, fun k hk => he.keep k hk noBl_liv⟩
  refine ⟨_, rfl, ds, [], p ++ [], [], p, [], hW0, ?_, ?_, ?_, hb.frame _, fun h => by cases h⟩
  · rw [List.append_nil, hs ds hlen, hres]
    exact ⟨[], [], shut_bool htb _, rfl, rfl⟩
  · rw [List.append_nil, hs ds hlen]
    exact stay_any hl hb (fun t ht => (hpar t ht).2) (fun x hx => hlt x (by simp [hx])) (fun x hx => by simpa using hlt x (by simp [hx])) hA
  · rw [List.append_nil, hs ds hlen, hvars]
    rfl
end
end Go.Ev
