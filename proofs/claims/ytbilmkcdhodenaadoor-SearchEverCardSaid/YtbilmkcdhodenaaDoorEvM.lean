/-
  EV, part M: lists of ints and their like as cells; tables of what is known of functions; shapes of trees.
-/
import Derived.Test.YtbilmkcdhodenaaDoorEvL
set_option linter.all false
set_option linter.unusedSimpArgs false
set_option linter.unusedVariables false
namespace Go.Ev

/-! ## what is known of functions -/
abbrev CSpec := List V → Hp → Option (List Bool × List V × Hp)
def CSpecOk (E : Env) (g : FuncId) (s : CSpec) : Prop := ∀ a h cs vals h', s a h = some (cs, vals, h') → allT cs = true → call E g a h = some (vals, h')
def ctOf : List (FuncId × CSpec) → CT
  | [], _, _, _ => none
  | (k, s) :: r, g, a, h => match Nat.beq g k with
    | true => s a h
    | false => ctOf r g a h
theorem ctOf_nil {E : Env} : CT.ok E (ctOf []) := fun g a h cs vals h' he => by simp [ctOf] at he
theorem ctOf_cons {E : Env} {k : FuncId} {s : CSpec} {r : List (FuncId × CSpec)} (hs : CSpecOk E k s) (hr : CT.ok E (ctOf r)) : CT.ok E (ctOf ((k, s) :: r)) := fun g a h cs vals h' he hc => by
  simp only [ctOf] at he
  split at he
  · rename_i hk
    rw [Nat.eq_of_beq_eq_true hk]
    exact hs a h cs vals h' he hc
  · exact hr g a h cs vals h' he hc

/-! ## ints -/
def ei (n : Int) : List C := [.int .i64 n]
def ints (l : List Int) : List (List C) := l.map ei
def toInts (xs : List (List C)) : List Int := xs.map fun c => (c.headD .pnil).i
def isInts (xs : List (List C)) : Bool := xs.all fun c => shOk [.int .i64] c
theorem ints_of {xs : List (List C)} (h : isInts xs = true) : xs = ints (toInts xs) := by
  induction xs with
  | nil => rfl
  | cons c r ih =>
    simp only [isInts, List.all_cons, Bool.and_eq_true] at h
    have h1 := shape_ok h.1
    simp only [ints, toInts, List.map_cons]
    rw [show r = List.map ei (List.map (fun c => (c.headD C.pnil).i) r) from ih h.2]
    simp only [List.map_map, List.cons.injEq]
    refine ⟨?_, by simp [ei, Function.comp_def, C.i]⟩
    conv => lhs; rw [← h1]
    rfl
@[simp] theorem toInts_ints (l : List Int) : toInts (ints l) = l := by simp [toInts, ints, ei, C.i, Function.comp_def]
@[simp] theorem isInts_ints (l : List Int) : isInts (ints l) = true := by simp [isInts, ints, ei, shOk, Sk.ok]
@[simp] theorem ints_length (l : List Int) : (ints l).length = l.length := by simp [ints]
@[simp] theorem toInts_length (l : List (List C)) : (toInts l).length = l.length := by simp [toInts]
theorem ints_getD {l : List Int} {i : Nat} (h : i < l.length) : (ints l).getD i [] = ei (l.getD i 0) := by
  simp [ints, List.getD_eq_getElem?_getD, h]
@[simp] theorem ei_i (n : Int) (d : C) : ((ei n).headD d).i = n := rfl
@[simp] theorem ei_ok (n : Int) : shOk [.int .i64] (ei n) = true := rfl
@[simp] theorem ints_append (l m : List Int) : ints l ++ ints m = ints (l ++ m) := by simp [ints]
@[simp] theorem ints_take (l : List Int) (n : Nat) : (ints l).take n = ints (l.take n) := by simp [ints, List.map_take]
@[simp] theorem ints_drop (l : List Int) (n : Nat) : (ints l).drop n = ints (l.drop n) := by simp [ints, List.map_drop]

@[simp] theorem ei_len (n : Int) : (ei n).length = 1 := rfl
@[simp] theorem ei_take (n : Int) : (ei n).take 1 = ei n := rfl
theorem mk_headD (n : Int) (d : C) : [(Sk.int .i64).mk ((ei n).headD d)] = ei n := rfl
theorem ints_snoc (l : List Int) (n : Int) : ints l ++ [[C.int .i64 n]] = ints (l ++ [n]) := by simp [ints, ei]
theorem ints_snoc' (l : List Int) (n : Int) : ints l ++ [ei n] = ints (l ++ [n]) := by simp [ints]

/-! ## numbers -/
theorem wrap_same {n : Int} (h1 : -9223372036854775808 ≤ n) (h2 : n ≤ 9223372036854775807) : IntKind.wrap .i64 n = n := by
  simp only [IntKind.wrap, IntKind.bits, IntKind.signed]
  simp; omega

/-! ## trees -/
section
variable {p : Par} {fin : Ex → St → Option R} {U : Code}
theorem den_leaf {r : R} : (Tr.leaf r).den p fin U = some r := rfl
theorem den_br {b : Bool} {x y : Tr} {r : R} (h1 : b = true → x.den p fin U = some r) (h2 : b = false → y.den p fin U = some r) : (Tr.br b x y).den p fin U = some r := by
  cases b with
  | true => exact h1 rfl
  | false => exact h2 rfl
theorem den_true {b : Bool} {x y : Tr} {r : R} (hb : b = true) (h : x.den p fin U = some r) : (Tr.br b x y).den p fin U = some r := by subst hb; exact h
theorem den_false {b : Bool} {x y : Tr} {r : R} (hb : b = false) (h : y.den p fin U = some r) : (Tr.br b x y).den p fin U = some r := by subst hb; exact h
theorem den_chk {b : Bool} {x : Tr} {r : R} (hb : b = true) (h : x.den p fin U = some r) : (Tr.chk b x).den p fin U = some r := by subst hb; exact h
end

/-! ## functions and loops -/
theorem ctx_some : ∀ (c : Code) {j0 j : Nat} {k : List Kf}, j0 ≤ j → j < j0 + nloops c → ∃ x, ctx c j0 j k = some x := by
  intro c
  induction c with
  | seq a b iha ihb =>
    intro j0 j k h1 h2
    simp only [nloops] at h2
    simp only [ctx]
    split
    · exact iha h1 (by assumption)
    · exact ihb (by omega) (by omega)
  | cond x a b iha ihb =>
    intro j0 j k h1 h2
    simp only [nloops] at h2
    simp only [ctx]
    split
    · exact iha h1 (by assumption)
    · exact ihb (by omega) (by omega)
  | block id b ih => intro j0 j k h1 h2; exact ih h1 h2
  | scope b ih => intro j0 j k h1 h2; exact ih h1 h2
  | loop b ih => intro j0 j k h1 h2; exact ⟨_, rfl⟩
  | rangeFunc f ps a b iha ihb => intro j0 j k h1 h2; exact ⟨_, rfl⟩
  | _ => intro j0 j k h1 h2; simp [nloops] at h2; omega

noncomputable def Par.fd (p : Par) (t : Tr) : Option R := t.den p p.fin (codeOf p.E p.g)
noncomputable def Par.ld (p : Par) (b : Code) (t : Tr) : Option R := t.den p (p.finL b) b
noncomputable def Par.loop (p : Par) (b : Code) (fr : Fr) (hp : Hp) : Option (Ex × St) := loopL p.E p.g p.n p.m b ⟨fr, hp⟩

/-- A function is what its tree says. -/
theorem call_of {E : Env} {sh : TypeId → Option (List Sk)} {ct : CT} {g na m : Nat} (hct : ct.ok E) {args vals : List V} {hp hp' : Hp} (ha : args.length = na) (hh : hp.length = m) (hx : E.ext g = none) (hs : nilArg (E.split g) args = none) {fn : Func} {code : Code} (hB : E.B g = some fn) (hc : fn.body = some code)
    (h : (par E sh ct g na m).fd ((par E sh ct g na m).ft args hp) = some (.out vals hp')) : call E g args hp = some (vals, hp') := by
  subst ha; subst hh
  have e1 : codeOf E g = code := by simp only [codeOf, hB, hc]
  have e2 : resOf E g = fn.results.toList := by simp only [resOf, hB]
  refine call_tree (p := par E sh ct g args.length hp.length) hct hx hB hc hs (by simp only [par, tmpsOf, hB]) rfl ?_
  unfold Par.fd Par.ft Par.fin at h
  rw [show codeOf (par E sh ct g args.length hp.length).E (par E sh ct g args.length hp.length).g = code from e1, show resOf (par E sh ct g args.length hp.length).E (par E sh ct g args.length hp.length).g = fn.results.toList from e2] at h
  exact h

section
variable {p : Par}
theorem fd_lp (hct : p.ct.ok p.E) {j : Nat} {fr fr' : Fr} {hp hp' : Hp} {e : Ex} {r : R} (hj : Nat.blt j (nloops (codeOf p.E p.g)) = true) (hl : p.loop (loopAt (codeOf p.E p.g) j) fr hp = some (e, ⟨fr', hp'⟩)) (h : p.fd (p.fk j e fr' hp') = some r) : p.fd (.lp j fr hp) = some r := by
  have hlt : j < nloops (codeOf p.E p.g) := by simpa [Nat.blt_eq] using hj
  obtain ⟨⟨b, k⟩, hx⟩ := ctx_some (codeOf p.E p.g) (k := []) (Nat.zero_le j) (by omega)
  refine den_lp hct hx hlt (fr' := fr') (hp' := hp') ?_ h
  unfold Par.loop loopAt at hl
  rw [hx] at hl
  exact hl
theorem ld_lp (hct : p.ct.ok p.E) {U : Code} {j : Nat} {fr fr' : Fr} {hp hp' : Hp} {e : Ex} {r : R} (hj : Nat.blt j (nloops U) = true) (hl : p.loop (loopAt U j) fr hp = some (e, ⟨fr', hp'⟩)) (h : p.ld U (p.lk U j e fr' hp') = some r) : p.ld U (.lp j fr hp) = some r := by
  have hlt : j < nloops U := by simpa [Nat.blt_eq] using hj
  obtain ⟨⟨b, k⟩, hx⟩ := ctx_some U (k := []) (Nat.zero_le j) (by omega)
  refine den_lp hct hx hlt (fr' := fr') (hp' := hp') ?_ h
  unfold Par.loop loopAt at hl
  rw [hx] at hl
  exact hl

/-- A loop that stands, step by step, where 'S' says, and ends as 'F' says. -/
theorem loop_of (hct : p.ct.ok p.E) {b : Code} {ι : Type} (S : ι → Fr × Hp) (Pre : ι → Prop) (μ : ι → Nat) (F : ι → Ex × Fr × Hp)
    (step : ∀ i, Pre i → (∃ i', Pre i' ∧ μ i' < μ i ∧ F i' = F i ∧ p.ld b (p.lt b (S i).1 (S i).2) = some (.st .nrm (S i').1 (S i').2)) ∨
      ((F i).1 ≠ .nrm ∧ p.ld b (p.lt b (S i).1 (S i).2) = some (.st (F i).1 (F i).2.1 (F i).2.2))) (i : ι) (hi : Pre i) :
    p.loop b (S i).1 (S i).2 = some ((F i).1, ⟨(F i).2.1, (F i).2.2⟩) := by
  obtain ⟨e, fr, hp, h1, h2⟩ := loop_ind hct (b := b) S Pre μ (fun i => .st (F i).1 (F i).2.1 (F i).2.2) (fun i hi => by
    rcases step i hi with ⟨i', q1, q2, q3, q4⟩ | ⟨q1, q2⟩
    · exact .inl ⟨i', q1, q2, by rw [q3], q4⟩
    · exact .inr ⟨_, _, _, q1, rfl, q2⟩) i hi
  simp only [R.st.injEq] at h1
  obtain ⟨rfl, rfl, rfl⟩ := h1
  exact h2

theorem fd_leaf {r : R} : p.fd (.leaf r) = some r := rfl
theorem ld_leaf {b : Code} {r : R} : p.ld b (.leaf r) = some r := rfl
theorem fd_br {c : Bool} {x y : Tr} : p.fd (.br c x y) = if c = true then p.fd x else p.fd y := by cases c <;> rfl
theorem ld_br {b : Code} {c : Bool} {x y : Tr} : p.ld b (.br c x y) = if c = true then p.ld b x else p.ld b y := by cases c <;> rfl
theorem fd_chk {c : Bool} {x : Tr} (h : c = true) : p.fd (.chk c x) = p.fd x := by subst h; rfl
theorem ld_chk {b : Code} {c : Bool} {x : Tr} (h : c = true) : p.ld b (.chk c x) = p.ld b x := by subst h; rfl
end
end Go.Ev
