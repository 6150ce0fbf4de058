/-
  EV, part W: loops whose way out is told by what comes of it.
-/
import Derived.Test.YtbilmkcdhodenaaDoorEvY
set_option linter.all false
set_option linter.unusedSimpArgs false
set_option linter.unusedVariables false
namespace Go.Ev
section
variable {p : Par}
/-- A loop, by an index that says where it stands; of its way out, something holds. -/
theorem loops_post (hct : p.ct.ok p.E) {b : Code} {ι : Type} (S : ι → Fr × Hp) (Pre : ι → Prop) (μ : ι → Nat) (Post : Ex × Fr × Hp → Prop)
    (step : ∀ i, Pre i → (∃ i', Pre i' ∧ μ i' < μ i ∧ p.ld b (p.lts b (S i)) = some (R.s (S i'))) ∨ (∃ x, x.1 ≠ .nrm ∧ Post x ∧ p.ld b (p.lts b (S i)) = some (R.x x))) :
    ∀ i, Pre i → ∃ x, Post x ∧ p.Loops b (S i) x := by
  classical
  have hG : ∀ N i, μ i < N → Pre i → ∃ x, Post x ∧ p.Loops b (S i) x := by
    intro N
    induction N with
    | zero => intro i h; omega
    | succ N ih =>
      intro i hi hpre
      rcases step i hpre with ⟨i', h1, h2, h3⟩ | ⟨x, h1, h2, h3⟩
      · obtain ⟨x, k1, k2⟩ := ih i' (by omega) h1
        refine ⟨x, k1, ?_⟩
        have h3' : (tree p (finL p.E p.g p.m b) b (S i).1 (S i).2).den p (finL p.E p.g p.m b) b = some (.st .nrm (S i').1 (S i').2) := h3
        obtain ⟨e, s, q1, q2⟩ := tree_sound hct h3'
        cases e with
        | nrm =>
          simp only [finL] at q2
          split at q2 <;> simp only [Option.some.injEq, R.st.injEq, reduceCtorEq] at q2
          rename_i s' hn
          refine loopL_step q1 hn ?_
          have k3 : loopL p.E p.g p.n p.m b ⟨(S i').1, (S i').2⟩ = some (x.1, ⟨x.2.1, x.2.2⟩) := k2
          rw [← q2.2.1, ← q2.2.2] at k3
          exact k3
        | exit j => simp [finL] at q2
        | ret => simp [finL] at q2
      · have := loop_ind hct (b := b) (ι := Unit) (fun _ => S i) (fun _ => True) (fun _ => 0) (fun _ => .st x.1 x.2.1 x.2.2) (fun _ _ => .inr ⟨x.1, x.2.1, x.2.2, h1, rfl, h3⟩) () trivial
        obtain ⟨e, fr, hp, q1, q2⟩ := this
        simp only [R.st.injEq] at q1
        obtain ⟨e1, e2, e3⟩ := q1
        refine ⟨x, h2, ?_⟩
        show loopL p.E p.g p.n p.m b ⟨(S i).1, (S i).2⟩ = some (x.1, ⟨x.2.1, x.2.2⟩)
        rw [e1, e2, e3]; exact q2
  exact fun i => hG _ i (Nat.lt_succ_self _)

/-- A loop that counts through a list. -/
theorem list_post (hct : p.ct.ok p.E) {b : Code} {σ : Type} (n : Nat) (S : Nat → σ → Fr × Hp) (Inv : Nat → σ → Prop) (Post : Ex × Fr × Hp → Prop)
    (step : ∀ k s, k < n → Inv k s → (∃ s', Inv (k + 1) s' ∧ p.ld b (p.lts b (S k s)) = some (R.s (S (k + 1) s'))) ∨ (∃ x, x.1 ≠ .nrm ∧ Post x ∧ p.ld b (p.lts b (S k s)) = some (R.x x)))
    (done : ∀ s, Inv n s → ∃ x, x.1 ≠ .nrm ∧ Post x ∧ p.ld b (p.lts b (S n s)) = some (R.x x)) (i : Nat) (hin : i ≤ n) (s : σ) (h0 : Inv i s) : ∃ x, Post x ∧ p.Loops b (S i s) x :=
  loops_post hct (b := b) (ι := Nat × σ) (fun i => S i.1 i.2) (fun i => i.1 ≤ n ∧ Inv i.1 i.2) (fun i => n - i.1) Post
    (fun ⟨k, s⟩ ⟨hk, hi⟩ => by
      rcases Nat.lt_or_ge k n with h | h
      · rcases step k s h hi with ⟨s', h1, h2⟩ | h1
        · exact .inl ⟨(k + 1, s'), ⟨by dsimp only; omega, h1⟩, by dsimp only; omega, h2⟩
        · exact .inr h1
      · obtain rfl : k = n := by dsimp only at hk; omega
        exact .inr (done s hi)) (i, s) ⟨hin, h0⟩

theorem fd_post (hct : p.ct.ok p.E) {j : Nat} {s : Fr × Hp} {r : Option R} (hj : Nat.blt j (nloops (codeOf p.E p.g)) = true) (hr : r.isSome = true) (hl : ∃ x, p.fd (p.fkx j x) = r ∧ p.Loops (loopAt (codeOf p.E p.g) j) s x) : p.fd (.ls j s) = r := by
  obtain ⟨x, h1, h2⟩ := hl
  exact fd_ls hct hj h2 h1 hr
theorem ld_post (hct : p.ct.ok p.E) {U : Code} {j : Nat} {s : Fr × Hp} {r : Option R} (hj : Nat.blt j (nloops U) = true) (hr : r.isSome = true) (hl : ∃ x, p.ld U (p.lkx U j x) = r ∧ p.Loops (loopAt U j) s x) : p.ld U (.ls j s) = r := by
  obtain ⟨x, h1, h2⟩ := hl
  exact ld_ls hct hj h2 h1 hr
theorem wrap_succ {k : Nat} (h : k < 9223372036854775807) : IntKind.wrap .i64 ((k : Int) + 1) = ((k + 1 : Nat) : Int) := by
  rw [wrap_same (by omega) (by omega)]; omega
theorem wrap_pred {k : Nat} (h1 : 0 < k) (h : k < 9223372036854775807) : IntKind.wrap .i64 ((k : Int) - 1) = ((k - 1 : Nat) : Int) := by
  rw [wrap_same (by omega) (by omega)]; omega

/-! ## loops over iterators -/
section
open Classical
variable {α σ : Type}
noncomputable def rgF (p : Par) (c : Code) (enc : α → List V) (S : σ → Fr × Hp) (Inv : List α → σ → Prop) (Post : Ex × Fr × Hp → Prop) : List α → σ → Ex × Fr × Hp
  | [], s => (.nrm, S s)
  | x :: l, s => if h : ∃ s', Inv l s' ∧ p.rds c (S s) (p.rts c (enc x) (S s)) = some (R.s (S s')) then rgF p c enc S Inv Post l h.choose
    else if h : ∃ y : Ex × Fr × Hp, y.1 ≠ .nrm ∧ Post y ∧ p.rds c (S s) (p.rts c (enc x) (S s)) = some (R.x y) then h.choose else (.nrm, S s)
theorem ranges_post (hct : p.ct.ok p.E) {c : Code} (hc : isRg c = true) (l : List α) (enc : α → List V) {s0 : Fr × Hp} {gi : FuncId} {caps args : List V} {h0 : Hp} {ids : List Nat}
    (hop : opd s0.1 (rgFn c) = some (.fn gi caps)) (hit : iterOf p.E gi caps s0.2 = some (args, h0, ids)) (hseq : p.E.seq gi args h0 = some (l.map enc))
    (hcall : ∀ u t, Want (l.map enc) u t → ∃ vals h1, call p.E gi args (h0 ++ [.yo u t]) = some (vals, h1) ∧ spent h1 ids.length = true)
    (S : σ → Fr × Hp) (Inv : List α → σ → Prop) (Post : Ex × Fr × Hp → Prop)
    (step : ∀ x l s, Inv (x :: l) s → (∃ s', Inv l s' ∧ p.rds c (S s) (p.rts c (enc x) (S s)) = some (R.s (S s'))) ∨ (∃ y : Ex × Fr × Hp, y.1 ≠ .nrm ∧ Post y ∧ p.rds c (S s) (p.rts c (enc x) (S s)) = some (R.x y)))
    (done : ∀ s, Inv [] s → Post (.nrm, S s)) (s : σ) (hS : S s = (s0.1, goneAt ids s0.2)) (hi : Inv l s) : ∃ y, Post y ∧ p.Ranges c s0 y := by
  refine ⟨rgF p c enc S Inv Post l s, ?_, ranges_list hct hc l enc hop hit hseq hcall S Inv (rgF p c enc S Inv Post) (fun x l s hi => ?_) (fun s _ => rfl) s hS hi⟩
  · clear hS hseq hcall
    induction l generalizing s with
    | nil => exact done s hi
    | cons x l ih =>
      simp only [rgF]
      split
      · rename_i h; exact ih _ h.choose_spec.1
      · rename_i h
        rcases step x l s hi with h1 | h1
        · exact absurd h1 h
        · rw [dif_pos h1]; exact h1.choose_spec.2.1
  · by_cases h : ∃ s', Inv l s' ∧ p.rds c (S s) (p.rts c (enc x) (S s)) = some (R.s (S s'))
    · exact .inl ⟨h.choose, h.choose_spec.1, by simp only [rgF, dif_pos h], h.choose_spec.2⟩
    · rcases step x l s hi with h1 | h1
      · exact absurd h1 h
      · refine .inr ?_
        have e : rgF p c enc S Inv Post (x :: l) s = h1.choose := by simp only [rgF, dif_neg h, dif_pos h1]
        rw [e]
        exact ⟨h1.choose_spec.1, h1.choose_spec.2.2⟩
end
theorem fd_rpost (hct : p.ct.ok p.E) {j : Nat} {s : Fr × Hp} {r : Option R} (hj : Nat.blt j (nloops (codeOf p.E p.g)) = true) (hr : r.isSome = true) (hl : ∃ x, p.fd (p.fkx j x) = r ∧ p.Ranges (loopAt (codeOf p.E p.g) j) s x) : p.fd (.rs j s) = r := by
  obtain ⟨x, h1, h2⟩ := hl
  exact fd_rs hct hj h2 h1 hr
theorem ld_rpost (hct : p.ct.ok p.E) {U : Code} {j : Nat} {s : Fr × Hp} {r : Option R} (hj : Nat.blt j (nloops U) = true) (hr : r.isSome = true) (hl : ∃ x, p.ld U (p.lkx U j x) = r ∧ p.Ranges (loopAt U j) s x) : p.ld U (.rs j s) = r := by
  obtain ⟨x, h1, h2⟩ := hl
  exact ld_rs hct hj h2 h1 hr
end
end Go.Ev
