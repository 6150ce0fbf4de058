/-
  EV, part M: lists of ints and their like as cells; tables of what is known of functions; shapes of trees.
-/
import Derived.Test.YtedniogmjhhhmaaDoorEvL
set_option linter.all false
set_option linter.unusedSimpArgs false
set_option linter.unusedVariables false
section
namespace Go.Ev

/-! ## what is known of functions -/
abbrev CSpec := List V → Hp → Option (List Bool × List V × Hp)
def CSpecOk (E : Env) (g : FuncId) (s : CSpec) : Prop := ∀ a h cs vals h', s a h = some (cs, vals, h') → allT cs = true → call E g a h = some (vals, h')
def ctOf : List (FuncId × CSpec) → CT
  | [], _, _, _ => none
  | (k, s) :: r, g, a, h => match Nat.beq g k with
    | true => s a h
    | false => ctOf r g a h
theorem ctOf_nil {E : Env} : CT.ok E (ctOf []) := fun g a h cs vals h' he => by simp [ctOf] at he
theorem ctOf_cons {E : Env} {k : FuncId} {s : CSpec} {r : List (FuncId × CSpec)} (hs : CSpecOk E k s) (hr : CT.ok E (ctOf r)) : CT.ok E (ctOf ((k, s) :: r)) := fun g a h cs vals h' he hc => by
  simp only [ctOf] at he
  split at he
  · rename_i hk
    rw [Nat.eq_of_beq_eq_true hk]
    exact hs a h cs vals h' he hc
  · exact hr g a h cs vals h' he hc

/-! ## ints -/
def ei (n : Int) : List C := [.int .i64 n]
def ints (l : List Int) : List (List C) := l.map ei
def toInts (xs : List (List C)) : List Int := xs.map fun c => (c.headD .pnil).i
def isInts (xs : List (List C)) : Bool := xs.all fun c => shOk [.int .i64] c
theorem ints_of {xs : List (List C)} (h : isInts xs = true) : xs = ints (toInts xs) := by
  induction xs with
  | nil => rfl
  | cons c r ih =>
    simp only [isInts, List.all_cons, Bool.and_eq_true] at h
    have h1 := shape_ok h.1
    simp only [ints, toInts, List.map_cons]
    rw [show r = List.map ei (List.map (fun c => (c.headD C.pnil).i) r) from ih h.2]
    simp only [List.map_map, List.cons.injEq]
    refine ⟨?_, by simp [ei, Function.comp_def, C.i]⟩
    conv => lhs; rw [← h1]
    rfl
@[simp] theorem toInts_ints (l : List Int) : toInts (ints l) = l := by simp [toInts, ints, ei, C.i, Function.comp_def]
@[simp] theorem isInts_ints (l : List Int) : isInts (ints l) = true := by simp [isInts, ints, ei, shOk, Sk.ok]
@[simp] theorem ints_length (l : List Int) : (ints l).length = l.length := by simp [ints]
@[simp] theorem toInts_length (l : List (List C)) : (toInts l).length = l.length := by simp [toInts]
theorem ints_getD {l : List Int} {i : Nat} (h : i < l.length) : (ints l).getD i [] = ei (l.getD i 0) := by
  simp [ints, List.getD_eq_getElem?_getD, h]
@[simp] theorem ei_i (n : Int) (d : C) : ((ei n).headD d).i = n := rfl
@[simp] theorem ei_ok (n : Int) : shOk [.int .i64] (ei n) = true := rfl
@[simp] theorem ints_append (l m : List Int) : ints l ++ ints m = ints (l ++ m) := by simp [ints]
@[simp] theorem ints_take (l : List Int) (n : Nat) : (ints l).take n = ints (l.take n) := by simp [ints, List.map_take]
@[simp] theorem ints_drop (l : List Int) (n : Nat) : (ints l).drop n = ints (l.drop n) := by simp [ints, List.map_drop]

@[simp] theorem ei_len (n : Int) : (ei n).length = 1 := rfl
@[simp] theorem ei_take (n : Int) : (ei n).take 1 = ei n := rfl
theorem mk_headD (n : Int) (d : C) : [(Sk.int .i64).mk ((ei n).headD d)] = ei n := rfl
theorem ints_snoc (l : List Int) (n : Int) : ints l ++ [[C.int .i64 n]] = ints (l ++ [n]) := by simp [ints, ei]
theorem ints_snoc' (l : List Int) (n : Int) : ints l ++ [ei n] = ints (l ++ [n]) := by simp [ints]

/-! ## numbers -/
theorem wrap_same {n : Int} (h1 : -9223372036854775808 ≤ n) (h2 : n ≤ 9223372036854775807) : IntKind.wrap .i64 n = n := by
  simp only [IntKind.wrap, IntKind.bits, IntKind.signed]
  simp; omega

/-! ## trees -/
section
variable {p : Par} {fin : Ex → St → Option R} {U : Code}
theorem den_leaf {r : R} : (Tr.leaf r).den p fin U = some r := rfl
theorem den_br {b : Bool} {x y : Tr} {r : R} (h1 : b = true → x.den p fin U = some r) (h2 : b = false → y.den p fin U = some r) : (Tr.br b x y).den p fin U = some r := by
  cases b with
  | true => exact h1 rfl
  | false => exact h2 rfl
theorem den_true {b : Bool} {x y : Tr} {r : R} (hb : b = true) (h : x.den p fin U = some r) : (Tr.br b x y).den p fin U = some r := by subst hb; exact h
theorem den_false {b : Bool} {x y : Tr} {r : R} (hb : b = false) (h : y.den p fin U = some r) : (Tr.br b x y).den p fin U = some r := by subst hb; exact h
theorem den_chk {b : Bool} {x : Tr} {r : R} (hb : b = true) (h : x.den p fin U = some r) : (Tr.chk b x).den p fin U = some r := by subst hb; exact h
end

/-! ## functions and loops -/
theorem ctx_some : ∀ (c : Code) {j0 j : Nat} {k : List Kf}, j0 ≤ j → j < j0 + nloops c → ∃ x, ctx c j0 j k = some x := by
  intro c
  induction c with
  | seq a b iha ihb =>
    intro j0 j k h1 h2
    simp only [nloops] at h2
    simp only [ctx]
    split
    · exact iha h1 (by assumption)
    · exact ihb (by omega) (by omega)
  | cond x a b iha ihb =>
    intro j0 j k h1 h2
    simp only [nloops] at h2
    simp only [ctx]
    split
    · exact iha h1 (by assumption)
    · exact ihb (by omega) (by omega)
  | block id b ih => intro j0 j k h1 h2; exact ih h1 h2
  | scope b ih => intro j0 j k h1 h2; exact ih h1 h2
  | loop b ih => intro j0 j k h1 h2; exact ⟨_, rfl⟩
  | rangeFunc f ps a b iha ihb => intro j0 j k h1 h2; exact ⟨_, rfl⟩
  | _ => intro j0 j k h1 h2; simp [nloops] at h2; omega

noncomputable def Par.fd (p : Par) (t : Tr) : Option R := t.den p p.fin (codeOf p.E p.g)
noncomputable def Par.ld (p : Par) (b : Code) (t : Tr) : Option R := t.den p (p.finL b) b
noncomputable def Par.loop (p : Par) (b : Code) (fr : Fr) (hp : Hp) : Option (Ex × St) := loopL p.E p.g p.n p.m b ⟨fr, hp⟩

/-- A function is what its tree says. -/
theorem call_of {E : Env} {sh : TypeId → Option (List Sk)} {ct : CT} {g na m : Nat} (hct : ct.ok E) {args vals : List V} {hp hp' : Hp} (ha : args.length = na) (hh : hp.length = m) (hx : E.ext g = none) (hs : nilArg (E.split g) args = none) {fn : Func} {code : Code} (hB : E.B g = some fn) (hc : fn.body = some code)
    (h : (par E sh ct g na m).fd ((par E sh ct g na m).ft args hp) = some (.out vals hp')) : call E g args hp = some (vals, hp') := by
  subst ha; subst hh
  have e1 : codeOf E g = code := by simp only [codeOf, hB, hc]
  have e2 : resOf E g = fn.results.toList := by simp only [resOf, hB]
  refine call_tree (p := par E sh ct g args.length hp.length) hct hx hB hc hs (by simp only [par, tmpsOf, hB]) rfl ?_
  unfold Par.fd Par.ft Par.fin at h
  rw [show codeOf (par E sh ct g args.length hp.length).E (par E sh ct g args.length hp.length).g = code from e1, show resOf (par E sh ct g args.length hp.length).E (par E sh ct g args.length hp.length).g = fn.results.toList from e2] at h
  exact h

section
variable {p : Par}
theorem fd_lp (hct : p.ct.ok p.E) {j : Nat} {fr fr' : Fr} {hp hp' : Hp} {e : Ex} {r : R} (hj : Nat.blt j (nloops (codeOf p.E p.g)) = true) (hl : p.loop (loopAt (codeOf p.E p.g) j) fr hp = some (e, ⟨fr', hp'⟩)) (h : p.fd (p.fk j e fr' hp') = some r) : p.fd (.lp j fr hp) = some r := by
  have hlt : j < nloops (codeOf p.E p.g) := by simpa [Nat.blt_eq] using hj
  obtain ⟨⟨b, k⟩, hx⟩ := ctx_some (codeOf p.E p.g) (k := []) (Nat.zero_le j) (by omega)
  refine den_lp hct hx hlt (fr' := fr') (hp' := hp') ?_ h
  unfold Par.loop loopAt at hl
  rw [hx] at hl
  exact hl
theorem ld_lp (hct : p.ct.ok p.E) {U : Code} {j : Nat} {fr fr' : Fr} {hp hp' : Hp} {e : Ex} {r : R} (hj : Nat.blt j (nloops U) = true) (hl : p.loop (loopAt U j) fr hp = some (e, ⟨fr', hp'⟩)) (h : p.ld U (p.lk U j e fr' hp') = some r) : p.ld U (.lp j fr hp) = some r := by
  have hlt : j < nloops U := by simpa [Nat.blt_eq] using hj
  obtain ⟨⟨b, k⟩, hx⟩ := ctx_some U (k := []) (Nat.zero_le j) (by omega)
  refine den_lp hct hx hlt (fr' := fr') (hp' := hp') ?_ h
  unfold Par.loop loopAt at hl
  rw [hx] at hl
  exact hl

/-- A loop that stands, step by step, where 'S' says, and ends as 'F' says. -/
theorem loop_of (hct : p.ct.ok p.E) {b : Code} {ι : Type} (S : ι → Fr × Hp) (Pre : ι → Prop) (μ : ι → Nat) (F : ι → Ex × Fr × Hp)
    (step : ∀ i, Pre i → (∃ i', Pre i' ∧ μ i' < μ i ∧ F i' = F i ∧ p.ld b (p.lt b (S i).1 (S i).2) = some (.st .nrm (S i').1 (S i').2)) ∨
      ((F i).1 ≠ .nrm ∧ p.ld b (p.lt b (S i).1 (S i).2) = some (.st (F i).1 (F i).2.1 (F i).2.2))) (i : ι) (hi : Pre i) :
    p.loop b (S i).1 (S i).2 = some ((F i).1, ⟨(F i).2.1, (F i).2.2⟩) := by
  obtain ⟨e, fr, hp, h1, h2⟩ := loop_ind hct (b := b) S Pre μ (fun i => .st (F i).1 (F i).2.1 (F i).2.2) (fun i hi => by
    rcases step i hi with ⟨i', q1, q2, q3, q4⟩ | ⟨q1, q2⟩
    · exact .inl ⟨i', q1, q2, by rw [q3], q4⟩
    · exact .inr ⟨_, _, _, q1, rfl, q2⟩) i hi
  simp only [R.st.injEq] at h1
  obtain ⟨rfl, rfl, rfl⟩ := h1
  exact h2

theorem fd_leaf {r : R} : p.fd (.leaf r) = some r := rfl
theorem ld_leaf {b : Code} {r : R} : p.ld b (.leaf r) = some r := rfl
theorem fd_br {c : Bool} {x y : Tr} : p.fd (.br c x y) = if c = true then p.fd x else p.fd y := by cases c <;> rfl
theorem ld_br {b : Code} {c : Bool} {x y : Tr} : p.ld b (.br c x y) = if c = true then p.ld b x else p.ld b y := by cases c <;> rfl
theorem fd_chk {c : Bool} {x : Tr} (h : c = true) : p.fd (.chk c x) = p.fd x := by subst h; rfl
theorem ld_chk {b : Code} {c : Bool} {x : Tr} (h : c = true) : p.ld b (.chk c x) = p.ld b x := by subst h; rfl
end
end Go.Ev

end

/-
  EV, part N: short words for states and ways out; loops over lists; codecs.
-/
section
namespace Go.Ev

/-- A function that is tried for nil and for no nil. -/
theorem call_split' {E : Env} {g : FuncId} {fn : Func} {args a1 a2 : List V} {hp : Hp} {r : List V × Hp} (hx : E.ext g = none) (hB : E.B g = some fn) (hs : nilArg (E.split g) args = some (a1, a2))
    (n1 : nilArg (E.split g) a1 = none) (n2 : nilArg (E.split g) a2 = none) (h1 : call E g a1 hp = some r) (h2 : call E g a2 hp = some r) (hsame : sameR (some r) (some r) = true) : call E g args hp = some r := by
  have get : ∀ {a : List V}, nilArg (E.split g) a = none → call E g a hp = some r → ∃ k, runF E (callN E k) k g fn a hp = some r := by
    intro a hn h
    obtain ⟨k, hk⟩ := call_iff.1 h
    cases k with
    | zero => simp [callN] at hk
    | succ k =>
      simp only [callN, hx, hB, hn] at hk
      exact ⟨k, hk⟩
  obtain ⟨k1, g1⟩ := get n1 h1
  obtain ⟨k2, g2⟩ := get n2 h2
  exact call_split hx hB hs (runF_le (callN_le (Nat.le_max_left k1 k2)) (Nat.le_max_left k1 k2) g1) (runF_le (callN_le (Nat.le_max_right k1 k2)) (Nat.le_max_right k1 k2) g2) hsame

abbrev R.s (s : Fr × Hp) : R := .st .nrm s.1 s.2
abbrev R.x (x : Ex × Fr × Hp) : R := .st x.1 x.2.1 x.2.2
abbrev Tr.ls (j : Nat) (s : Fr × Hp) : Tr := .lp j s.1 s.2
abbrev Par.lts (p : Par) (b : Code) (s : Fr × Hp) : Tr := p.lt b s.1 s.2
abbrev Par.fkx (p : Par) (j : Nat) (x : Ex × Fr × Hp) : Tr := p.fk j x.1 x.2.1 x.2.2
abbrev Par.lkx (p : Par) (b : Code) (j : Nat) (x : Ex × Fr × Hp) : Tr := p.lk b j x.1 x.2.1 x.2.2
/-- The loop, begun in the state s, ends so. -/
def Par.Loops (p : Par) (b : Code) (s : Fr × Hp) (x : Ex × Fr × Hp) : Prop := p.loop b s.1 s.2 = some (x.1, ⟨x.2.1, x.2.2⟩)

section
variable {p : Par}
theorem fd_chk' {c : Bool} {x : Tr} : p.fd (.chk c x) = if c = true then p.fd x else none := by cases c <;> rfl
theorem ld_chk' {b : Code} {c : Bool} {x : Tr} : p.ld b (.chk c x) = if c = true then p.ld b x else none := by cases c <;> rfl

theorem fd_ls (hct : p.ct.ok p.E) {j : Nat} {s : Fr × Hp} {x : Ex × Fr × Hp} {r : Option R} (hj : Nat.blt j (nloops (codeOf p.E p.g)) = true) (hl : p.Loops (loopAt (codeOf p.E p.g) j) s x) (h : p.fd (p.fkx j x) = r) (hr : r.isSome = true) : p.fd (.ls j s) = r := by
  obtain ⟨r, rfl⟩ := Option.isSome_iff_exists.1 hr
  exact fd_lp hct hj hl h
theorem ld_ls (hct : p.ct.ok p.E) {U : Code} {j : Nat} {s : Fr × Hp} {x : Ex × Fr × Hp} {r : Option R} (hj : Nat.blt j (nloops U) = true) (hl : p.Loops (loopAt U j) s x) (h : p.ld U (p.lkx U j x) = r) (hr : r.isSome = true) : p.ld U (.ls j s) = r := by
  obtain ⟨r, rfl⟩ := Option.isSome_iff_exists.1 hr
  exact ld_lp hct hj hl h

theorem loops_of (hct : p.ct.ok p.E) {b : Code} {ι : Type} (S : ι → Fr × Hp) (Pre : ι → Prop) (μ : ι → Nat) (F : ι → Ex × Fr × Hp)
    (step : ∀ i, Pre i → (∃ i', Pre i' ∧ μ i' < μ i ∧ F i' = F i ∧ p.ld b (p.lts b (S i)) = some (R.s (S i'))) ∨ ((F i).1 ≠ .nrm ∧ p.ld b (p.lts b (S i)) = some (R.x (F i)))) (i : ι) (hi : Pre i) : p.Loops b (S i) (F i) :=
  loop_of hct S Pre μ F step i hi

/-- A loop that counts through a list: 'S k s': its state at place k; 'F l s': how it ends with l left. -/
theorem loop_list (hct : p.ct.ok p.E) {b : Code} {α σ : Type} (l : List α) (S : Nat → σ → Fr × Hp) (Inv : Nat → σ → Prop) (F : List α → σ → Ex × Fr × Hp)
    (step : ∀ k s x, l[k]? = some x → k < l.length → Inv k s → (∃ s', Inv (k + 1) s' ∧ F (x :: l.drop (k + 1)) s = F (l.drop (k + 1)) s' ∧ p.ld b (p.lts b (S k s)) = some (R.s (S (k + 1) s'))) ∨
      ((F (x :: l.drop (k + 1)) s).1 ≠ .nrm ∧ p.ld b (p.lts b (S k s)) = some (R.x (F (x :: l.drop (k + 1)) s))))
    (done : ∀ s, Inv l.length s → (F [] s).1 ≠ .nrm ∧ p.ld b (p.lts b (S l.length s)) = some (R.x (F [] s))) (s : σ) (h0 : Inv 0 s) :
    p.Loops b (S 0 s) (F l s) := by
  have := loop_of hct (b := b) (ι := Nat × σ) (fun i => S i.1 i.2) (fun i => i.1 ≤ l.length ∧ Inv i.1 i.2) (fun i => l.length - i.1) (fun i => F (l.drop i.1) i.2)
    (fun ⟨k, s⟩ ⟨hk, hi⟩ => by
      rcases Nat.lt_or_ge k l.length with h | h
      · have hg : l[k]? = some l[k] := List.getElem?_eq_getElem h
        have hd : l.drop k = l[k] :: l.drop (k + 1) := List.drop_eq_getElem_cons h
        simp only [hd]
        rcases step k s l[k] hg h hi with ⟨s', h1, h2, h3⟩ | h1
        · exact .inl ⟨(k + 1, s'), ⟨by omega, h1⟩, by dsimp only; omega, h2.symm, h3⟩
        · exact .inr h1
      · obtain rfl : k = l.length := by omega
        simp only [List.drop_length]
        exact .inr (done s hi)) (0, s) ⟨Nat.zero_le _, h0⟩
  exact this

/-! ## loops over iterators -/
abbrev Tr.rs (j : Nat) (s : Fr × Hp) : Tr := .rg j s.1 s.2
abbrev Par.rts (p : Par) (c : Code) (e : List V) (s : Fr × Hp) : Tr := p.rt c e s.1 s.2
noncomputable abbrev Par.rds (p : Par) (c : Code) (s : Fr × Hp) (t : Tr) : Option R := p.rd c s.1 s.2 t
abbrev Par.rkx (p : Par) (c : Code) (s0 : Fr × Hp) (j : Nat) (x : Ex × Fr × Hp) : Tr := p.rk c s0.1 s0.2 j x.1 x.2.1 x.2.2
/-- The parameters within a round that stands in s. -/
abbrev Par.inR (p : Par) (s : Fr × Hp) : Par := p.deep s.2.length
abbrev rgCode (c : Code) : Code := .seq (rgAsn c) (rgBody c)
def Par.Ranges (p : Par) (c : Code) (s : Fr × Hp) (x : Ex × Fr × Hp) : Prop := ∃ f ps a b, c = .rangeFunc f ps a b ∧ rangeL p.E p.g p.n p.m f ps.toList a b ⟨s.1, s.2⟩ = some (x.1, ⟨x.2.1, x.2.2⟩)

/-- The state in which the rounds begin: the iterator's own objects are gone. -/
def Par.gone (p : Par) (c : Code) (s : Fr × Hp) : Fr × Hp := match opd s.1 (rgFn c) with
  | some (.fn gi caps) => match iterOf p.E gi caps s.2 with
    | some (_, _, ids) => (s.1, goneAt ids s.2)
    | none => s
  | _ => s

theorem den_rs (hct : p.ct.ok p.E) {fin : Ex → St → Option R} {U : Code} {j : Nat} {s : Fr × Hp} {x : Ex × Fr × Hp} {r : R} (hj : Nat.blt j (nloops U) = true) (hl : p.Ranges (loopAt U j) s x) (h : (treeK p fin U j x.1 x.2.1 x.2.2).den p fin U = some r) : (Tr.rs j s).den p fin U = some r := by
  have hlt : j < nloops U := by simpa [Nat.blt_eq] using hj
  obtain ⟨⟨b, k⟩, hx⟩ := ctx_some U (k := []) (Nat.zero_le j) (by omega)
  obtain ⟨f, ps, a, bd, hc, hl⟩ := hl
  unfold loopAt at hc
  rw [hx] at hc
  simp only at hc
  subst hc
  exact den_rg hct hx hlt hl h
theorem den_ls (hct : p.ct.ok p.E) {fin : Ex → St → Option R} {U : Code} {j : Nat} {s : Fr × Hp} {x : Ex × Fr × Hp} {r : R} (hj : Nat.blt j (nloops U) = true) (hl : p.Loops (loopAt U j) s x) (h : (treeK p fin U j x.1 x.2.1 x.2.2).den p fin U = some r) : (Tr.ls j s).den p fin U = some r := by
  have hlt : j < nloops U := by simpa [Nat.blt_eq] using hj
  obtain ⟨⟨b, k⟩, hx⟩ := ctx_some U (k := []) (Nat.zero_le j) (by omega)
  refine den_lp hct hx hlt ?_ h
  unfold Par.Loops Par.loop loopAt at hl
  rw [hx] at hl
  exact hl
theorem fd_rs (hct : p.ct.ok p.E) {j : Nat} {s : Fr × Hp} {x : Ex × Fr × Hp} {r : Option R} (hj : Nat.blt j (nloops (codeOf p.E p.g)) = true) (hl : p.Ranges (loopAt (codeOf p.E p.g) j) s x) (h : p.fd (p.fkx j x) = r) (hr : r.isSome = true) : p.fd (.rs j s) = r := by
  obtain ⟨r, rfl⟩ := Option.isSome_iff_exists.1 hr
  exact den_rs hct hj hl h
theorem ld_rs (hct : p.ct.ok p.E) {U : Code} {j : Nat} {s : Fr × Hp} {x : Ex × Fr × Hp} {r : Option R} (hj : Nat.blt j (nloops U) = true) (hl : p.Ranges (loopAt U j) s x) (h : p.ld U (p.lkx U j x) = r) (hr : r.isSome = true) : p.ld U (.rs j s) = r := by
  obtain ⟨r, rfl⟩ := Option.isSome_iff_exists.1 hr
  exact den_rs hct hj hl h
theorem rd_rs (hct : p.ct.ok p.E) {c : Code} {s0 : Fr × Hp} {j : Nat} {s : Fr × Hp} {x : Ex × Fr × Hp} {r : Option R} (hj : Nat.blt j (nloops (rgCode c)) = true) (hl : (p.inR s0).Ranges (loopAt (rgCode c) j) s x) (h : p.rds c s0 (p.rkx c s0 j x) = r) (hr : r.isSome = true) : p.rds c s0 (.rs j s) = r := by
  obtain ⟨r, rfl⟩ := Option.isSome_iff_exists.1 hr
  exact den_rs (p := p.inR s0) hct hj hl h
theorem rd_ls (hct : p.ct.ok p.E) {c : Code} {s0 : Fr × Hp} {j : Nat} {s : Fr × Hp} {x : Ex × Fr × Hp} {r : Option R} (hj : Nat.blt j (nloops (rgCode c)) = true) (hl : (p.inR s0).Loops (loopAt (rgCode c) j) s x) (h : p.rds c s0 (p.rkx c s0 j x) = r) (hr : r.isSome = true) : p.rds c s0 (.ls j s) = r := by
  obtain ⟨r, rfl⟩ := Option.isSome_iff_exists.1 hr
  exact den_ls (p := p.inR s0) hct hj hl h
theorem rd_leaf {c : Code} {s : Fr × Hp} {r : R} : p.rds c s (.leaf r) = some r := rfl
theorem rd_br {c : Code} {s : Fr × Hp} {b : Bool} {x y : Tr} : p.rds c s (.br b x y) = if b = true then p.rds c s x else p.rds c s y := by cases b <;> rfl
theorem rd_chk' {c : Code} {s : Fr × Hp} {b : Bool} {x : Tr} : p.rds c s (.chk b x) = if b = true then p.rds c s x else none := by cases b <;> rfl

/-- A loop over an iterator, element by element. -/
theorem ranges_list (hct : p.ct.ok p.E) {c : Code} (hc : isRg c = true) {α σ : Type} (l : List α) (enc : α → List V) {s0 : Fr × Hp} {gi : FuncId} {caps args : List V} {h0 : Hp} {ids : List Nat}
    (hop : opd s0.1 (rgFn c) = some (.fn gi caps)) (hit : iterOf p.E gi caps s0.2 = some (args, h0, ids)) (hseq : p.E.seq gi args h0 = some (l.map enc))
    (hcall : ∀ u t, Want (l.map enc) u t → ∃ vals h1, call p.E gi args (h0 ++ [.yo u t]) = some (vals, h1) ∧ spent h1 ids.length = true)
    (S : σ → Fr × Hp) (Inv : List α → σ → Prop) (F : List α → σ → Ex × Fr × Hp)
    (step : ∀ x l s, Inv (x :: l) s → (∃ s', Inv l s' ∧ F (x :: l) s = F l s' ∧ p.rds c (S s) (p.rts c (enc x) (S s)) = some (R.s (S s'))) ∨
      ((F (x :: l) s).1 ≠ .nrm ∧ p.rds c (S s) (p.rts c (enc x) (S s)) = some (R.x (F (x :: l) s))))
    (done : ∀ s, Inv [] s → F [] s = (.nrm, S s)) (s : σ) (hS : S s = (s0.1, goneAt ids s0.2)) (hi : Inv l s) : p.Ranges c s0 (F l s) := by
  obtain ⟨u, t, hr⟩ := rounds_list hct hc enc S Inv F step done l s hi
  obtain ⟨vals, h1, hcl, hsp⟩ := hcall u t (roundsE_want hr)
  cases c with
  | rangeFunc f ps a b =>
    refine ⟨f, ps, a, b, rfl, rangeL_of hop hit hseq (by rw [hS] at hr; exact hr) hcl hsp⟩
  | _ => simp [isRg] at hc
end
end Go.Ev

end

/-
  EV, part Y: a function that hands back own rows at an age that does not hang on its way through: its ages are told anew on the way in and out.
-/
section
namespace Go.Ev

def ageR (α : Nat → Nat) (H : Hp) (i ep : Nat) : Option Nat := match H[i]? with
  | some (.mem _ e _) => if e = ep then some (α i) else none
  | _ => some ep
mutual
def V.re (α : Nat → Nat) (H : Hp) : V → V
  | .buf i ep off len => match ageR α H i ep with | some e => .buf i e off len | none => .junk
  | .ptr i ep el o => match ageR α H i ep with | some e => .ptr i e el o | none => .junk
  | .fn f caps => .fn f (reL α H caps)
  | .yl i => .yl i
  | .agg xs => .agg (reL α H xs)
  | .tup xs => .tup (reL α H xs)
  | .junk => .junk | .undef => .undef | .c x => .c x | .fp cs => .fp cs
def reL (α : Nat → Nat) (H : Hp) : List V → List V
  | [] => []
  | v :: r => v.re α H :: reL α H r
end
def O.re (α : Nat → Nat) (H : Hp) (i : Nat) : O → O
  | .box cs => .box (reL α H cs)
  | .mem z _ xs => .mem z (α i) xs
  | .yo r s => .yo r s
  | .gone => .gone
def reK (α : Nat → Nat) (H : Hp) : Nat → Hp → Hp
  | _, [] => []
  | k, o :: r => o.re α H k :: reK α H (k + 1) r
def agesOf (H : Hp) (i : Nat) : Nat := match H[i]? with
  | some (.mem _ e _) => e
  | _ => 0
def bumpA (H : Hp) (i : Nat) : Nat := if i < H.length then agesOf H i + 1 else 0
/-- f, for rows of any age: those that it was handed are a step older behind it; new ones are young. -/
def xbump (f : List V → Hp → Option (List V × Hp)) : List V → Hp → Option (List V × Hp) := fun args H =>
  match f (reL (fun _ => 0) H args) (reK (fun _ => 0) H 0 H) with
  | some (vals, H1) => some (reL (bumpA H) H1 vals, reK (bumpA H) H1 0 H1)
  | none => none

section
variable {w w' : World} {A A' : Nat → Prop} {bl bl' : Bl} {H H' : Hp} {α : Nat → Nat}
theorem reL_map : ∀ {l : List V}, reL α H l = l.map (V.re α H)
  | [] => rfl
  | v :: r => by simp [reL, reL_map (l := r)]
theorem reL_get {l : List V} {j : Nat} {x : V} (h : (reL α H l)[j]? = some x) : ∃ y, l[j]? = some y ∧ x = y.re α H := by
  rw [reL_map, List.getElem?_map, Option.map_eq_some_iff] at h
  obtain ⟨y, h1, h2⟩ := h
  exact ⟨y, h1, h2.symm⟩
theorem reK_at : ∀ {l : Hp} {k i : Nat}, (reK α H k l)[i]? = l[i]?.map (O.re α H (k + i))
  | [], k, i => by simp [reK]
  | o :: r, k, 0 => by simp [reK]
  | o :: r, k, i + 1 => by
    simp only [reK, List.getElem?_cons_succ]
    rw [reK_at, show k + 1 + i = k + (i + 1) by omega]
theorem reK_len : ∀ {l : Hp} {k : Nat}, (reK α H k l).length = l.length
  | [], k => rfl
  | o :: r, k => by simp [reK, reK_len]
theorem re_at {i : Nat} : (reK α H 0 H)[i]? = H[i]?.map (O.re α H i) := by
  rw [reK_at, Nat.zero_add]
theorem re_mem {i z e' : Nat} {xs : List (List C)} (h : (reK α H 0 H)[i]? = some (.mem z e' xs)) : ∃ e, H[i]? = some (.mem z e xs) ∧ e' = α i := by
  rw [re_at, Option.map_eq_some_iff] at h
  obtain ⟨o, h1, h2⟩ := h
  cases o <;> simp [O.re] at h2
  obtain ⟨rfl, h3, rfl⟩ := h2
  exact ⟨_, h1, h3.symm⟩
theorem re_box {i : Nat} {cs : List V} (h : (reK α H 0 H)[i]? = some (.box cs)) : ∃ cs0, H[i]? = some (.box cs0) ∧ cs = reL α H cs0 := by
  rw [re_at, Option.map_eq_some_iff] at h
  obtain ⟨o, h1, h2⟩ := h
  cases o <;> simp [O.re] at h2
  exact ⟨_, h1, h2.symm⟩
theorem re_yo {i : Nat} {r : List (List V)} {t : Bool} (h : (reK α H 0 H)[i]? = some (.yo r t)) : H[i]? = some (.yo r t) := by
  rw [re_at, Option.map_eq_some_iff] at h
  obtain ⟨o, h1, h2⟩ := h
  cases o <;> simp [O.re] at h2
  rw [h1]; simp [h2]
theorem re_alive {i : Nat} : alive (reK α H 0 H) i ↔ alive H i := by
  constructor
  · rintro ⟨o, h1, h2⟩
    rw [re_at, Option.map_eq_some_iff] at h1
    obtain ⟨o', h3, rfl⟩ := h1
    exact ⟨o', h3, by cases o' <;> first | rfl | simp [O.re, O.live] at h2⟩
  · rintro ⟨o, h1, h2⟩
    exact ⟨o.re α H i, by rw [re_at, h1]; rfl, by cases o <;> first | rfl | simp [O.live] at h2⟩
theorem re_liv {b : Nat} : Liv bl (reK α H 0 H) b ↔ Liv bl H b :=
  ⟨fun h => h.elim (fun ⟨i, d, h1, h2⟩ => .inl ⟨i, d, re_alive.1 h1, h2⟩) .inr, fun h => h.elim (fun ⟨i, d, h1, h2⟩ => .inl ⟨i, d, re_alive.2 h1, h2⟩) .inr⟩

theorem ageR_spec {i ep e' : Nat} (h : ageR α H i ep = some e') : (∃ z xs, H[i]? = some (.mem z ep xs)) ∧ e' = α i ∨ (∀ z e xs, H[i]? ≠ some (.mem z e xs)) := by
  unfold ageR at h
  split at h
  · split at h <;> simp only [Option.some.injEq, reduceCtorEq] at h
    rename_i z e xs hi he
    subst he
    exact .inl ⟨⟨_, _, hi⟩, h.symm⟩
  · rename_i hne
    exact .inr fun z e xs hi => hne z e xs hi

theorem RepV.re {v : V} {u : Value} (h : RepV w A bl H v u) : RepV w A bl (reK α H 0 H) (v.re α H) u := by
  induction h with
  | junk => exact .junk _
  | undef => exact .undef
  | c x v h => exact .c _ _ h
  | fp cs a h1 h2 => exact .fp _ _ h1 h2
  | buf i ep off len a l cap h1 h2 h3 =>
    simp only [V.re]
    cases hρ : ageR α H i ep with
    | none => exact .junk _
    | some e' =>
      have hs := ageR_spec hρ
      refine .buf _ _ _ _ _ _ _ (by rw [reK_len]; exact h1) (fun z e xs hj => ?_) (fun z xs hj => ?_)
      · obtain ⟨e0, k1, rfl⟩ := re_mem hj
        rcases hs with ⟨_, rfl⟩ | q2
        · exact Nat.le_refl _
        · exact absurd k1 (q2 _ _ _)
      · obtain ⟨e0, k1, k2⟩ := re_mem hj
        rcases hs with ⟨⟨z', xs', q2⟩, rfl⟩ | q2
        · rw [k1] at q2
          simp only [Option.some.injEq, O.mem.injEq] at q2
          obtain ⟨rfl, rfl, rfl⟩ := q2
          exact h3 _ _ k1
        · exact absurd k1 (q2 _ _ _)
  | ptr i ep el o a h1 h2 h3 h4 =>
    simp only [V.re]
    cases hρ : ageR α H i ep with
    | none => exact .junk _
    | some e' =>
      have hs := ageR_spec hρ
      refine .ptr _ _ _ _ _ (by rw [reK_len]; exact h1) (fun z e xs hj => ?_) (fun cs hj => ?_) (fun z xs hj => ?_)
      · obtain ⟨e0, k1, rfl⟩ := re_mem hj
        rcases hs with ⟨_, rfl⟩ | q2
        · exact Nat.le_refl _
        · exact absurd k1 (q2 _ _ _)
      · obtain ⟨cs0, k1, _⟩ := re_box hj
        exact h3 _ k1
      · obtain ⟨e0, k1, k2⟩ := re_mem hj
        rcases hs with ⟨⟨z', xs', q2⟩, rfl⟩ | q2
        · rw [k1] at q2
          simp only [Option.some.injEq, O.mem.injEq] at q2
          obtain ⟨rfl, rfl, rfl⟩ := q2
          exact h4 _ _ k1
        · exact absurd k1 (q2 _ _ _)
  | yl i b h1 h2 =>
    simp only [V.re]
    exact .yl _ _ (by rw [reK_len]; exact h1) fun r s h => h2 _ _ (re_yo h)
  | fn f caps vs h1 _ ih =>
    refine .fn _ _ _ (by rw [reL_map]; simpa using h1) fun j x u hj hu => ?_
    obtain ⟨y, k1, rfl⟩ := reL_get hj
    exact ih j y u k1 hu
  | agg xs vs h1 _ ih =>
    refine .agg _ _ (by rw [reL_map]; simpa using h1) fun j x u hj hu => ?_
    obtain ⟨y, k1, rfl⟩ := reL_get hj
    exact ih j y u k1 hu
  | tup xs vs h1 _ ih =>
    refine .tup _ _ (by rw [reL_map]; simpa using h1) fun j x u hj hu => ?_
    obtain ⟨y, k1, rfl⟩ := reL_get hj
    exact ih j y u k1 hu
theorem RepL.re {l : List V} {us : List Value} (h : RepL w A bl H l us) : RepL w A bl (reK α H 0 H) (reL α H l) us := by
  refine ⟨by rw [reL_map]; simpa using h.1, fun j x u hj hu => ?_⟩
  obtain ⟨y, k1, rfl⟩ := reL_get hj
  exact (h.2 j y u k1 hu).re

theorem re_rep (hH : RepH w A bl H) : RepH w A bl (reK α H 0 H) := by
  refine ⟨fun i o hi => ?_, fun i j b d d' hij hi hj => hH.inj i j b d d' hij (re_alive.1 hi) (re_alive.1 hj), fun i b d hi => hH.lt i b d (re_alive.1 hi), hH.alt, hH.xlt, fun i b d hi => hH.xinj i b d (re_alive.1 hi), hH.base⟩
  rw [re_at, Option.map_eq_some_iff] at hi
  obtain ⟨o', h1, rfl⟩ := hi
  have := hH.obj i o' h1
  cases o' with
  | gone => trivial
  | yo r s => exact this
  | box cs =>
    obtain ⟨b, arr, t, h1, h2, h3, h4⟩ := this
    refine ⟨b, arr, t, h1, h2, by rw [reL_map]; simpa using h3, fun j x u hj hu => ?_⟩
    obtain ⟨y, k1, rfl⟩ := reL_get hj
    exact (h4 j y u k1 hu).re
  | mem z e xs => exact this

theorem bump_le {β : Nat → Nat} {H1 : Hp} (hl : Le w A bl (reK α H 0 H) w' A' bl' H1) (hβ : ∀ i z e xs, H[i]? = some (.mem z e xs) → β i = e + 1) : Le w A bl H w' A' bl' (reK β H1 0 H1) := by
  have hlen := hl.len
  rw [reK_len] at hlen
  refine ⟨hl.C, hl.A, by rw [reK_len]; exact hlen, fun i z e' xs' hi h => ?_, fun i cs' hi h => ?_, fun i r s hi h => ?_, hl.cx, fun i z e xs xs' b d n h1 h2 hb hr => ?_⟩
  · obtain ⟨e0, k1, rfl⟩ := re_mem h
    obtain ⟨e1, xs1, g1, _⟩ := hl.mem i z e0 xs' (by rw [reK_len]; exact hi) k1
    obtain ⟨e2, g3, _⟩ := re_mem g1
    have := hβ i _ _ _ g3
    exact ⟨e2, xs1, g3, by omega, fun h => by omega⟩
  · obtain ⟨cs0, k1, _⟩ := re_box h
    obtain ⟨cs1, g1, g2⟩ := hl.box i cs0 (by rw [reK_len]; exact hi) k1
    obtain ⟨cs2, g3, _⟩ := re_box g1
    exact ⟨cs2, g3, g2⟩
  · obtain ⟨r1, s1, g1, g2⟩ := hl.yo i r s (by rw [reK_len]; exact hi) (re_yo h)
    exact ⟨r1, s1, re_yo g1, g2⟩
  · obtain ⟨e0, k1, k2⟩ := re_mem h2
    have := hβ i _ _ _ h1
    omega
end

theorem xbump_sound {P : Program} {K : World → Prop} {g : FuncId} {f : List V → Hp → Option (List V × Hp)} (hf : ∀ args H vals H', f args H = some (vals, H') → Enter P g ∧ Sound P K g args H vals H')
    {args vals : List V} {H H' : Hp} (h : xbump f args H = some (vals, H')) : Enter P g ∧ Sound P K g args H vals H' := by
  unfold xbump at h
  split at h <;> simp only [Option.some.injEq, Prod.mk.injEq, reduceCtorEq] at h
  rename_i vals1 H1 h1
  obtain ⟨rfl, rfl⟩ := h
  obtain ⟨h2, h3⟩ := hf _ _ _ _ h1
  refine ⟨h2, fun w A bl us hcx hH ha => ?_⟩
  refine Calls.mono (h3 w A bl us hcx (re_rep hH) ha.re) ?_
  rintro e w' ⟨A', bl', rs, rfl, q1, q2, q3, q4⟩
  refine ⟨A', bl', rs, rfl, q1.re, re_rep q2, bump_le q3 fun i z e xs hi => ?_, ?_⟩
  · have hlt : i < H.length := (List.getElem?_eq_some_iff.1 hi).1
    simp only [bumpA, if_pos hlt, agesOf, hi]
  · exact ⟨q4.os, q4.tape, q4.output, q4.size, fun b hb hL => q4.keep b hb fun h => hL (re_liv.1 h), fun b hb => (q4.live b (re_liv.1 hb)).imp re_liv.1 id, fun b hb => (q4.from_ b hb).imp id (Or.imp re_liv.1 id)⟩
/-- f, tried for nil and for no nil where its first argument is empty. -/
def xsplit (f : List V → Hp → Option (List V × Hp)) : List V → Hp → Option (List V × Hp) := fun args H =>
  match nilArg true args with
  | some (a, b) => both (f a H) (f b H)
  | none => f args H
theorem xsplit_sound {P : Program} {K : World → Prop} {g : FuncId} {f : List V → Hp → Option (List V × Hp)} (hf : ∀ args H vals H', f args H = some (vals, H') → Enter P g ∧ Sound P K g args H vals H')
    {args vals : List V} {H H' : Hp} (h : xsplit f args H = some (vals, H')) : Enter P g ∧ Sound P K g args H vals H' := by
  unfold xsplit at h
  split at h
  · rename_i a b hn
    unfold both at h
    split at h
    case isFalse => cases h
    rename_i hs
    have hb := sameR_eq hs
    rw [h] at hb
    obtain ⟨g1, g2⟩ := hf _ _ _ _ h
    obtain ⟨_, g3⟩ := hf _ _ _ _ hb.symm
    refine ⟨g1, fun w A bl us hcx hH ha => ?_⟩
    rcases nilArg_rep hn ha with k | k
    · exact g2 w A bl us hcx hH k
    · exact g3 w A bl us hcx hH k
  · exact hf _ _ _ _ h
end Go.Ev

end

/-
  EV, part W: loops whose way out is told by what comes of it.
-/
section
namespace Go.Ev
section
variable {p : Par}
/-- A loop, by an index that says where it stands; of its way out, something holds. -/
theorem loops_post (hct : p.ct.ok p.E) {b : Code} {ι : Type} (S : ι → Fr × Hp) (Pre : ι → Prop) (μ : ι → Nat) (Post : Ex × Fr × Hp → Prop)
    (step : ∀ i, Pre i → (∃ i', Pre i' ∧ μ i' < μ i ∧ p.ld b (p.lts b (S i)) = some (R.s (S i'))) ∨ (∃ x, x.1 ≠ .nrm ∧ Post x ∧ p.ld b (p.lts b (S i)) = some (R.x x))) :
    ∀ i, Pre i → ∃ x, Post x ∧ p.Loops b (S i) x := by
  classical
  have hG : ∀ N i, μ i < N → Pre i → ∃ x, Post x ∧ p.Loops b (S i) x := by
    intro N
    induction N with
    | zero => intro i h; omega
    | succ N ih =>
      intro i hi hpre
      rcases step i hpre with ⟨i', h1, h2, h3⟩ | ⟨x, h1, h2, h3⟩
      · obtain ⟨x, k1, k2⟩ := ih i' (by omega) h1
        refine ⟨x, k1, ?_⟩
        have h3' : (tree p (finL p.E p.g p.m b) b (S i).1 (S i).2).den p (finL p.E p.g p.m b) b = some (.st .nrm (S i').1 (S i').2) := h3
        obtain ⟨e, s, q1, q2⟩ := tree_sound hct h3'
        cases e with
        | nrm =>
          simp only [finL] at q2
          split at q2 <;> simp only [Option.some.injEq, R.st.injEq, reduceCtorEq] at q2
          rename_i s' hn
          refine loopL_step q1 hn ?_
          have k3 : loopL p.E p.g p.n p.m b ⟨(S i').1, (S i').2⟩ = some (x.1, ⟨x.2.1, x.2.2⟩) := k2
          rw [← q2.2.1, ← q2.2.2] at k3
          exact k3
        | exit j => simp [finL] at q2
        | ret => simp [finL] at q2
      · have := loop_ind hct (b := b) (ι := Unit) (fun _ => S i) (fun _ => True) (fun _ => 0) (fun _ => .st x.1 x.2.1 x.2.2) (fun _ _ => .inr ⟨x.1, x.2.1, x.2.2, h1, rfl, h3⟩) () trivial
        obtain ⟨e, fr, hp, q1, q2⟩ := this
        simp only [R.st.injEq] at q1
        obtain ⟨e1, e2, e3⟩ := q1
        refine ⟨x, h2, ?_⟩
        show loopL p.E p.g p.n p.m b ⟨(S i).1, (S i).2⟩ = some (x.1, ⟨x.2.1, x.2.2⟩)
        rw [e1, e2, e3]; exact q2
  exact fun i => hG _ i (Nat.lt_succ_self _)

/-- A loop that counts through a list. -/
theorem list_post (hct : p.ct.ok p.E) {b : Code} {σ : Type} (n : Nat) (S : Nat → σ → Fr × Hp) (Inv : Nat → σ → Prop) (Post : Ex × Fr × Hp → Prop)
    (step : ∀ k s, k < n → Inv k s → (∃ s', Inv (k + 1) s' ∧ p.ld b (p.lts b (S k s)) = some (R.s (S (k + 1) s'))) ∨ (∃ x, x.1 ≠ .nrm ∧ Post x ∧ p.ld b (p.lts b (S k s)) = some (R.x x)))
    (done : ∀ s, Inv n s → ∃ x, x.1 ≠ .nrm ∧ Post x ∧ p.ld b (p.lts b (S n s)) = some (R.x x)) (i : Nat) (hin : i ≤ n) (s : σ) (h0 : Inv i s) : ∃ x, Post x ∧ p.Loops b (S i s) x :=
  loops_post hct (b := b) (ι := Nat × σ) (fun i => S i.1 i.2) (fun i => i.1 ≤ n ∧ Inv i.1 i.2) (fun i => n - i.1) Post
    (fun ⟨k, s⟩ ⟨hk, hi⟩ => by
      rcases Nat.lt_or_ge k n with h | h
      · rcases step k s h hi with ⟨s', h1, h2⟩ | h1
        · exact .inl ⟨(k + 1, s'), ⟨by dsimp only; omega, h1⟩, by dsimp only; omega, h2⟩
        · exact .inr h1
      · obtain rfl : k = n := by dsimp only at hk; omega
        exact .inr (done s hi)) (i, s) ⟨hin, h0⟩

theorem fd_post (hct : p.ct.ok p.E) {j : Nat} {s : Fr × Hp} {r : Option R} (hj : Nat.blt j (nloops (codeOf p.E p.g)) = true) (hr : r.isSome = true) (hl : ∃ x, p.fd (p.fkx j x) = r ∧ p.Loops (loopAt (codeOf p.E p.g) j) s x) : p.fd (.ls j s) = r := by
  obtain ⟨x, h1, h2⟩ := hl
  exact fd_ls hct hj h2 h1 hr
theorem ld_post (hct : p.ct.ok p.E) {U : Code} {j : Nat} {s : Fr × Hp} {r : Option R} (hj : Nat.blt j (nloops U) = true) (hr : r.isSome = true) (hl : ∃ x, p.ld U (p.lkx U j x) = r ∧ p.Loops (loopAt U j) s x) : p.ld U (.ls j s) = r := by
  obtain ⟨x, h1, h2⟩ := hl
  exact ld_ls hct hj h2 h1 hr
theorem wrap_succ {k : Nat} (h : k < 9223372036854775807) : IntKind.wrap .i64 ((k : Int) + 1) = ((k + 1 : Nat) : Int) := by
  rw [wrap_same (by omega) (by omega)]; omega
theorem wrap_pred {k : Nat} (h1 : 0 < k) (h : k < 9223372036854775807) : IntKind.wrap .i64 ((k : Int) - 1) = ((k - 1 : Nat) : Int) := by
  rw [wrap_same (by omega) (by omega)]; omega

/-! ## loops over iterators -/
section
open Classical
variable {α σ : Type}
noncomputable def rgF (p : Par) (c : Code) (enc : α → List V) (S : σ → Fr × Hp) (Inv : List α → σ → Prop) (Post : Ex × Fr × Hp → Prop) : List α → σ → Ex × Fr × Hp
  | [], s => (.nrm, S s)
  | x :: l, s => if h : ∃ s', Inv l s' ∧ p.rds c (S s) (p.rts c (enc x) (S s)) = some (R.s (S s')) then rgF p c enc S Inv Post l h.choose
    else if h : ∃ y : Ex × Fr × Hp, y.1 ≠ .nrm ∧ Post y ∧ p.rds c (S s) (p.rts c (enc x) (S s)) = some (R.x y) then h.choose else (.nrm, S s)
theorem ranges_post (hct : p.ct.ok p.E) {c : Code} (hc : isRg c = true) (l : List α) (enc : α → List V) {s0 : Fr × Hp} {gi : FuncId} {caps args : List V} {h0 : Hp} {ids : List Nat}
    (hop : opd s0.1 (rgFn c) = some (.fn gi caps)) (hit : iterOf p.E gi caps s0.2 = some (args, h0, ids)) (hseq : p.E.seq gi args h0 = some (l.map enc))
    (hcall : ∀ u t, Want (l.map enc) u t → ∃ vals h1, call p.E gi args (h0 ++ [.yo u t]) = some (vals, h1) ∧ spent h1 ids.length = true)
    (S : σ → Fr × Hp) (Inv : List α → σ → Prop) (Post : Ex × Fr × Hp → Prop)
    (step : ∀ x l s, Inv (x :: l) s → (∃ s', Inv l s' ∧ p.rds c (S s) (p.rts c (enc x) (S s)) = some (R.s (S s'))) ∨ (∃ y : Ex × Fr × Hp, y.1 ≠ .nrm ∧ Post y ∧ p.rds c (S s) (p.rts c (enc x) (S s)) = some (R.x y)))
    (done : ∀ s, Inv [] s → Post (.nrm, S s)) (s : σ) (hS : S s = (s0.1, goneAt ids s0.2)) (hi : Inv l s) : ∃ y, Post y ∧ p.Ranges c s0 y := by
  refine ⟨rgF p c enc S Inv Post l s, ?_, ranges_list hct hc l enc hop hit hseq hcall S Inv (rgF p c enc S Inv Post) (fun x l s hi => ?_) (fun s _ => rfl) s hS hi⟩
  · clear hS hseq hcall
    induction l generalizing s with
    | nil => exact done s hi
    | cons x l ih =>
      simp only [rgF]
      split
      · rename_i h; exact ih _ h.choose_spec.1
      · rename_i h
        rcases step x l s hi with h1 | h1
        · exact absurd h1 h
        · rw [dif_pos h1]; exact h1.choose_spec.2.1
  · by_cases h : ∃ s', Inv l s' ∧ p.rds c (S s) (p.rts c (enc x) (S s)) = some (R.s (S s'))
    · exact .inl ⟨h.choose, h.choose_spec.1, by simp only [rgF, dif_pos h], h.choose_spec.2⟩
    · rcases step x l s hi with h1 | h1
      · exact absurd h1 h
      · refine .inr ?_
        have e : rgF p c enc S Inv Post (x :: l) s = h1.choose := by simp only [rgF, dif_neg h, dif_pos h1]
        rw [e]
        exact ⟨h1.choose_spec.1, h1.choose_spec.2.2⟩
end
theorem fd_rpost (hct : p.ct.ok p.E) {j : Nat} {s : Fr × Hp} {r : Option R} (hj : Nat.blt j (nloops (codeOf p.E p.g)) = true) (hr : r.isSome = true) (hl : ∃ x, p.fd (p.fkx j x) = r ∧ p.Ranges (loopAt (codeOf p.E p.g) j) s x) : p.fd (.rs j s) = r := by
  obtain ⟨x, h1, h2⟩ := hl
  exact fd_rs hct hj h2 h1 hr
theorem ld_rpost (hct : p.ct.ok p.E) {U : Code} {j : Nat} {s : Fr × Hp} {r : Option R} (hj : Nat.blt j (nloops U) = true) (hr : r.isSome = true) (hl : ∃ x, p.ld U (p.lkx U j x) = r ∧ p.Ranges (loopAt U j) s x) : p.ld U (.rs j s) = r := by
  obtain ⟨x, h1, h2⟩ := hl
  exact ld_rs hct hj h2 h1 hr
end
end Go.Ev

end
