/-
  EV, part N: short words for states and ways out; loops over lists; codecs.
-/
import Derived.Test.YtbilmkcdhodenaaDoorEvM
set_option linter.all false
set_option linter.unusedSimpArgs false
set_option linter.unusedVariables false
namespace Go.Ev

/-- A function that is tried for nil and for no nil. -/
theorem call_split' {E : Env} {g : FuncId} {fn : Func} {args a1 a2 : List V} {hp : Hp} {r : List V × Hp} (hx : E.ext g = none) (hB : E.B g = some fn) (hs : nilArg (E.split g) args = some (a1, a2))
    (n1 : nilArg (E.split g) a1 = none) (n2 : nilArg (E.split g) a2 = none) (h1 : call E g a1 hp = some r) (h2 : call E g a2 hp = some r) (hsame : sameR (some r) (some r) = true) : call E g args hp = some r := by
  have get : ∀ {a : List V}, nilArg (E.split g) a = none → call E g a hp = some r → ∃ k, runF E (callN E k) k g fn a hp = some r := by
    intro a hn h
    obtain ⟨k, hk⟩ := call_iff.1 h
    cases k with
    | zero => simp [callN] at hk
    | succ k =>
      simp only [callN, hx, hB, hn] at hk
      exact ⟨k, hk⟩
  obtain ⟨k1, g1⟩ := get n1 h1
  obtain ⟨k2, g2⟩ := get n2 h2
  exact call_split hx hB hs (runF_le (callN_le (Nat.le_max_left k1 k2)) (Nat.le_max_left k1 k2) g1) (runF_le (callN_le (Nat.le_max_right k1 k2)) (Nat.le_max_right k1 k2) g2) hsame

abbrev R.s (s : Fr × Hp) : R := .st .nrm s.1 s.2
abbrev R.x (x : Ex × Fr × Hp) : R := .st x.1 x.2.1 x.2.2
abbrev Tr.ls (j : Nat) (s : Fr × Hp) : Tr := .lp j s.1 s.2
abbrev Par.lts (p : Par) (b : Code) (s : Fr × Hp) : Tr := p.lt b s.1 s.2
abbrev Par.fkx (p : Par) (j : Nat) (x : Ex × Fr × Hp) : Tr := p.fk j x.1 x.2.1 x.2.2
abbrev Par.lkx (p : Par) (b : Code) (j : Nat) (x : Ex × Fr × Hp) : Tr := p.lk b j x.1 x.2.1 x.2.2
/-- The loop, begun in the state s, ends so. -/
def Par.Loops (p : Par) (b : Code) (s : Fr × Hp) (x : Ex × Fr × Hp) : Prop := p.loop b s.1 s.2 = some (x.1, ⟨x.2.1, x.2.2⟩)

section
variable {p : Par}
theorem fd_chk' {c : Bool} {x : Tr} : p.fd (.chk c x) = if c = true then p.fd x else none := by cases c <;> rfl
theorem ld_chk' {b : Code} {c : Bool} {x : Tr} : p.ld b (.chk c x) = if c = true then p.ld b x else none := by cases c <;> rfl

theorem fd_ls (hct : p.ct.ok p.E) {j : Nat} {s : Fr × Hp} {x : Ex × Fr × Hp} {r : Option R} (hj : Nat.blt j (nloops (codeOf p.E p.g)) = true) (hl : p.Loops (loopAt (codeOf p.E p.g) j) s x) (h : p.fd (p.fkx j x) = r) (hr : r.isSome = true) : p.fd (.ls j s) = r := by
  obtain ⟨r, rfl⟩ := Option.isSome_iff_exists.1 hr
  exact fd_lp hct hj hl h
theorem ld_ls (hct : p.ct.ok p.E) {U : Code} {j : Nat} {s : Fr × Hp} {x : Ex × Fr × Hp} {r : Option R} (hj : Nat.blt j (nloops U) = true) (hl : p.Loops (loopAt U j) s x) (h : p.ld U (p.lkx U j x) = r) (hr : r.isSome = true) : p.ld U (.ls j s) = r := by
  obtain ⟨r, rfl⟩ := Option.isSome_iff_exists.1 hr
  exact ld_lp hct hj hl h

theorem loops_of (hct : p.ct.ok p.E) {b : Code} {ι : Type} (S : ι → Fr × Hp) (Pre : ι → Prop) (μ : ι → Nat) (F : ι → Ex × Fr × Hp)
    (step : ∀ i, Pre i → (∃ i', Pre i' ∧ μ i' < μ i ∧ F i' = F i ∧ p.ld b (p.lts b (S i)) = some (R.s (S i'))) ∨ ((F i).1 ≠ .nrm ∧ p.ld b (p.lts b (S i)) = some (R.x (F i)))) (i : ι) (hi : Pre i) : p.Loops b (S i) (F i) :=
  loop_of hct S Pre μ F step i hi

/-- A loop that counts through a list: 'S k s': its state at place k; 'F l s': how it ends with l left. -/
theorem loop_list (hct : p.ct.ok p.E) {b : Code} {α σ : Type} (l : List α) (S : Nat → σ → Fr × Hp) (Inv : Nat → σ → Prop) (F : List α → σ → Ex × Fr × Hp)
    (step : ∀ k s x, l[k]? = some x → k < l.length → Inv k s → (∃ s', Inv (k + 1) s' ∧ F (x :: l.drop (k + 1)) s = F (l.drop (k + 1)) s' ∧ p.ld b (p.lts b (S k s)) = some (R.s (S (k + 1) s'))) ∨
      ((F (x :: l.drop (k + 1)) s).1 ≠ .nrm ∧ p.ld b (p.lts b (S k s)) = some (R.x (F (x :: l.drop (k + 1)) s))))
    (done : ∀ s, Inv l.length s → (F [] s).1 ≠ .nrm ∧ p.ld b (p.lts b (S l.length s)) = some (R.x (F [] s))) (s : σ) (h0 : Inv 0 s) :
    p.Loops b (S 0 s) (F l s) := by
  have := loop_of hct (b := b) (ι := Nat × σ) (fun i => S i.1 i.2) (fun i => i.1 ≤ l.length ∧ Inv i.1 i.2) (fun i => l.length - i.1) (fun i => F (l.drop i.1) i.2)
    (fun ⟨k, s⟩ ⟨hk, hi⟩ => by
      rcases Nat.lt_or_ge k l.length with h | h
      · have hg : l[k]? = some l[k] := List.getElem?_eq_getElem h
        have hd : l.drop k = l[k] :: l.drop (k + 1) := List.drop_eq_getElem_cons h
        simp only [hd]
        rcases step k s l[k] hg h hi with ⟨s', h1, h2, h3⟩ | h1
        · exact .inl ⟨(k + 1, s'), ⟨by omega, h1⟩, by dsimp only; omega, h2.symm, h3⟩
        · exact .inr h1
      · obtain rfl : k = l.length := by omega
        simp only [List.drop_length]
        exact .inr (done s hi)) (0, s) ⟨Nat.zero_le _, h0⟩
  exact this

/-! ## loops over iterators -/
abbrev Tr.rs (j : Nat) (s : Fr × Hp) : Tr := .rg j s.1 s.2
abbrev Par.rts (p : Par) (c : Code) (e : List V) (s : Fr × Hp) : Tr := p.rt c e s.1 s.2
noncomputable abbrev Par.rds (p : Par) (c : Code) (s : Fr × Hp) (t : Tr) : Option R := p.rd c s.1 s.2 t
abbrev Par.rkx (p : Par) (c : Code) (s0 : Fr × Hp) (j : Nat) (x : Ex × Fr × Hp) : Tr := p.rk c s0.1 s0.2 j x.1 x.2.1 x.2.2
/-- The parameters within a round that stands in s. -/
abbrev Par.inR (p : Par) (s : Fr × Hp) : Par := p.deep s.2.length
abbrev rgCode (c : Code) : Code := .seq (rgAsn c) (rgBody c)
def Par.Ranges (p : Par) (c : Code) (s : Fr × Hp) (x : Ex × Fr × Hp) : Prop := ∃ f ps a b, c = .rangeFunc f ps a b ∧ rangeL p.E p.g p.n p.m f ps.toList a b ⟨s.1, s.2⟩ = some (x.1, ⟨x.2.1, x.2.2⟩)

/-- The state in which the rounds begin: the iterator's own objects are gone. -/
def Par.gone (p : Par) (c : Code) (s : Fr × Hp) : Fr × Hp := match opd s.1 (rgFn c) with
  | some (.fn gi caps) => match iterOf p.E gi caps s.2 with
    | some (_, _, ids) => (s.1, goneAt ids s.2)
    | none => s
  | _ => s

theorem den_rs (hct : p.ct.ok p.E) {fin : Ex → St → Option R} {U : Code} {j : Nat} {s : Fr × Hp} {x : Ex × Fr × Hp} {r : R} (hj : Nat.blt j (nloops U) = true) (hl : p.Ranges (loopAt U j) s x) (h : (treeK p fin U j x.1 x.2.1 x.2.2).den p fin U = some r) : (Tr.rs j s).den p fin U = some r := by
  have hlt : j < nloops U := by simpa [Nat.blt_eq] using hj
  obtain ⟨⟨b, k⟩, hx⟩ := ctx_some U (k := []) (Nat.zero_le j) (by omega)
  obtain ⟨f, ps, a, bd, hc, hl⟩ := hl
  unfold loopAt at hc
  rw [hx] at hc
  simp only at hc
  subst hc
  exact den_rg hct hx hlt hl h
theorem den_ls (hct : p.ct.ok p.E) {fin : Ex → St → Option R} {U : Code} {j : Nat} {s : Fr × Hp} {x : Ex × Fr × Hp} {r : R} (hj : Nat.blt j (nloops U) = true) (hl : p.Loops (loopAt U j) s x) (h : (treeK p fin U j x.1 x.2.1 x.2.2).den p fin U = some r) : (Tr.ls j s).den p fin U = some r := by
  have hlt : j < nloops U := by simpa [Nat.blt_eq] using hj
  obtain ⟨⟨b, k⟩, hx⟩ := ctx_some U (k := []) (Nat.zero_le j) (by omega)
  refine den_lp hct hx hlt ?_ h
  unfold Par.Loops Par.loop loopAt at hl
  rw [hx] at hl
  exact hl
theorem fd_rs (hct : p.ct.ok p.E) {j : Nat} {s : Fr × Hp} {x : Ex × Fr × Hp} {r : Option R} (hj : Nat.blt j (nloops (codeOf p.E p.g)) = true) (hl : p.Ranges (loopAt (codeOf p.E p.g) j) s x) (h : p.fd (p.fkx j x) = r) (hr : r.isSome = true) : p.fd (.rs j s) = r := by
  obtain ⟨r, rfl⟩ := Option.isSome_iff_exists.1 hr
  exact den_rs hct hj hl h
theorem ld_rs (hct : p.ct.ok p.E) {U : Code} {j : Nat} {s : Fr × Hp} {x : Ex × Fr × Hp} {r : Option R} (hj : Nat.blt j (nloops U) = true) (hl : p.Ranges (loopAt U j) s x) (h : p.ld U (p.lkx U j x) = r) (hr : r.isSome = true) : p.ld U (.rs j s) = r := by
  obtain ⟨r, rfl⟩ := Option.isSome_iff_exists.1 hr
  exact den_rs hct hj hl h
theorem rd_rs (hct : p.ct.ok p.E) {c : Code} {s0 : Fr × Hp} {j : Nat} {s : Fr × Hp} {x : Ex × Fr × Hp} {r : Option R} (hj : Nat.blt j (nloops (rgCode c)) = true) (hl : (p.inR s0).Ranges (loopAt (rgCode c) j) s x) (h : p.rds c s0 (p.rkx c s0 j x) = r) (hr : r.isSome = true) : p.rds c s0 (.rs j s) = r := by
  obtain ⟨r, rfl⟩ := Option.isSome_iff_exists.1 hr
  exact den_rs (p := p.inR s0) hct hj hl h
theorem rd_ls (hct : p.ct.ok p.E) {c : Code} {s0 : Fr × Hp} {j : Nat} {s : Fr × Hp} {x : Ex × Fr × Hp} {r : Option R} (hj : Nat.blt j (nloops (rgCode c)) = true) (hl : (p.inR s0).Loops (loopAt (rgCode c) j) s x) (h : p.rds c s0 (p.rkx c s0 j x) = r) (hr : r.isSome = true) : p.rds c s0 (.ls j s) = r := by
  obtain ⟨r, rfl⟩ := Option.isSome_iff_exists.1 hr
  exact den_ls (p := p.inR s0) hct hj hl h
theorem rd_leaf {c : Code} {s : Fr × Hp} {r : R} : p.rds c s (.leaf r) = some r := rfl
theorem rd_br {c : Code} {s : Fr × Hp} {b : Bool} {x y : Tr} : p.rds c s (.br b x y) = if b = true then p.rds c s x else p.rds c s y := by cases b <;> rfl
theorem rd_chk' {c : Code} {s : Fr × Hp} {b : Bool} {x : Tr} : p.rds c s (.chk b x) = if b = true then p.rds c s x else none := by cases b <;> rfl

/-- A loop over an iterator, element by element. -/
theorem ranges_list (hct : p.ct.ok p.E) {c : Code} (hc : isRg c = true) {α σ : Type} (l : List α) (enc : α → List V) {s0 : Fr × Hp} {gi : FuncId} {caps args : List V} {h0 : Hp} {ids : List Nat}
    (hop : opd s0.1 (rgFn c) = some (.fn gi caps)) (hit : iterOf p.E gi caps s0.2 = some (args, h0, ids)) (hseq : p.E.seq gi args h0 = some (l.map enc))
    (hcall : ∀ u t, Want (l.map enc) u t → ∃ vals h1, call p.E gi args (h0 ++ [.yo u t]) = some (vals, h1) ∧ spent h1 ids.length = true)
    (S : σ → Fr × Hp) (Inv : List α → σ → Prop) (F : List α → σ → Ex × Fr × Hp)
    (step : ∀ x l s, Inv (x :: l) s → (∃ s', Inv l s' ∧ F (x :: l) s = F l s' ∧ p.rds c (S s) (p.rts c (enc x) (S s)) = some (R.s (S s'))) ∨
      ((F (x :: l) s).1 ≠ .nrm ∧ p.rds c (S s) (p.rts c (enc x) (S s)) = some (R.x (F (x :: l) s))))
    (done : ∀ s, Inv [] s → F [] s = (.nrm, S s)) (s : σ) (hS : S s = (s0.1, goneAt ids s0.2)) (hi : Inv l s) : p.Ranges c s0 (F l s) := by
  obtain ⟨u, t, hr⟩ := rounds_list hct hc enc S Inv F step done l s hi
  obtain ⟨vals, h1, hcl, hsp⟩ := hcall u t (roundsE_want hr)
  cases c with
  | rangeFunc f ps a b =>
    refine ⟨f, ps, a, b, rfl, rangeL_of hop hit hseq (by rw [hS] at hr; exact hr) hcl hsp⟩
  | _ => simp [isRg] at hc
end
end Go.Ev
