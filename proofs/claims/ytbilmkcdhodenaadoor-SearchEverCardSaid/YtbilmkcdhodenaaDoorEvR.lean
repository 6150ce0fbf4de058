/-
  EV, part R: a loop over an iterator: the iterator's run and the rounds, each told without the other.
-/
import Derived.Test.YtbilmkcdhodenaaDoorEvI
set_option linter.all false
set_option linter.unusedSimpArgs false
set_option linter.unusedVariables false
namespace Go.Ev
section
variable {P : Program} {K : World → Prop} {n : Nat} {w w' : World} {A A' : Nat → Prop} {bl bl' : Bl} {H H' : Hp} {fr fr' : Fr}

theorem liv_lt (hH : RepH w A bl H) {c : Nat} (h : Liv bl H c) : c < w.heap.size ∧ ¬ A c := by
  rcases h with ⟨i, d, h1, h2⟩ | h
  · exact hH.lt i c d h1 h2
  · exact hH.xlt c h

/-- What is held is held while nothing that it leads to turns. -/
theorem RepH.still (hH : RepH w A bl H) (hA : ∀ c, A c → A' c) (alt : ∀ c, A' c → c < w'.heap.size) (dis : ∀ c, Liv bl H c → ¬ A' c) (keep : ∀ c, Liv bl H c ∨ A c → w'.heap[c]? = w.heap[c]?) (size : w.heap.size ≤ w'.heap.size) (os : w'.os = w.os) (tape : w'.tape = w.tape) (output : w'.output = w.output) :
    RepH w' A' bl H ∧ Le w A bl H w' A' bl H := by
  have hl : Le w A bl H w' A' bl H := ⟨fun b hb => keep b (.inr hb), hA, Nat.le_refl _, fun i z e xs _ h => ⟨e, xs, h, Nat.le_refl _, fun _ => ⟨rfl, rfl⟩⟩, fun i cs _ h => ⟨cs, h, rfl⟩, fun i r s _ h => ⟨r, s, h, rfl⟩, rfl,
    fun i z e xs xs' b d n h0 _ hb hr => by rw [rowOf_keep (keep b (.inl (.inl ⟨i, d, ⟨_, h0, rfl⟩, hb⟩)))]; exact hr⟩
  have hard : Ard w w' A' bl bl := ⟨rfl, alt, fun c hc => dis c (.inr hc), fun c hc => keep c (.inl (.inr hc)), size, os, tape, output⟩
  refine ⟨⟨fun i o hi => ?_, hH.inj, fun i b d ha hb => ⟨Nat.lt_of_lt_of_le (hH.lt i b d ha hb).1 size, dis b (.inl ⟨i, d, ha, hb⟩)⟩, alt, fun b hb => ⟨Nat.lt_of_lt_of_le (hH.xlt b hb).1 size, dis b (.inr hb)⟩, hH.xinj, hH.base.mono hl.A hl.C⟩, hl⟩
  cases ho : o.live with
  | false => cases o <;> simp [O.live] at ho; trivial
  | true => exact (hH.obj i o hi).mono hl hard rfl (fun b d hb => keep b (.inl (.inl ⟨i, d, ⟨o, hi, ho⟩, hb⟩))) (fun b d hb => dis b (.inl ⟨i, d, ⟨o, hi, ho⟩, hb⟩))

theorem RepH.putObj (hH : RepH w A bl H) {l : Nat} (hA : ¬ A l) (hL : ¬ Liv bl H l) (o : Obj) : RepH (w.putObj l o) A bl H ∧ Le w A bl H (w.putObj l o) A bl H :=
  hH.still (fun _ h => h) (fun c hc => by simpa using hH.alt c hc) (fun c hc => (liv_lt hH hc).2) (fun c hc => World.putObj_heap_other fun e => hc.elim (fun h => hL (e ▸ h)) (fun h => hA (e ▸ h))) (by simp) rfl rfl rfl

theorem RepV.cx {X : Nat → Prop} {cx : Ctx} {v : V} {u : Value} (h : RepV w A bl H v u) : RepV w A { bl with X := X, cx := cx } H v u := by
  induction h with
  | junk => exact .junk _
  | undef => exact .undef
  | c x v h => exact .c _ _ h
  | fp cs a h1 h2 => exact .fp _ _ h1 h2
  | buf i ep off len a l cap h1 h2 h3 => exact .buf _ _ _ _ _ _ _ h1 h2 h3
  | ptr i ep el o a h1 h2 h3 h4 => exact .ptr _ _ _ _ _ h1 h2 h3 h4
  | yl i b h1 h2 => exact .yl _ _ h1 h2
  | fn f caps vs h1 _ ih => exact .fn _ _ _ h1 ih
  | agg xs vs h1 _ ih => exact .agg _ _ h1 ih
  | tup xs vs h1 _ ih => exact .tup _ _ h1 ih
theorem RepO.cx {X : Nat → Prop} {cx : Ctx} {i : Nat} {o : O} (hn : ∀ r s, o ≠ .yo r s) (h : RepO w A bl H i o) : RepO w A { bl with X := X, cx := cx } H i o := by
  cases o with
  | gone => trivial
  | yo r s => exact absurd rfl (hn r s)
  | box cs =>
    obtain ⟨b, arr, t, h1, h2, h3, h4⟩ := h
    exact ⟨b, arr, t, h1, h2, h3, fun j x u hj hu => (h4 j x u hj hu).cx⟩
  | mem z e xs => exact h

theorem pureL_at : ∀ {l : List V} {cs : List C}, pureL l = some cs → ∀ (j : Nat) (x : V), l[j]? = some x → ∃ c, x = .c c
  | [], _, _, j, x, h => by simp at h
  | v :: l, cs, hp, j, x, h => by
    cases v <;> simp only [pureL, reduceCtorEq] at hp
    split at hp <;> simp only [Option.some.injEq, reduceCtorEq] at hp
    cases j with
    | zero => simp at h; exact ⟨_, h.symm⟩
    | succ j => simp at h; exact pureL_at ‹_› j x h
theorem closed_at : ∀ {l : List V}, closedL l = true → ∀ (j : Nat) (x : V), l[j]? = some x → (∃ c, x = .c c) ∨ (∃ cs, x = .fp cs) ∨ ∃ xs cs, x = .agg xs ∧ pureL xs = some cs
  | [], _, j, x, h => by simp at h
  | v :: l, hc, j, x, h => by
    have hl : closedL l = true ∧ ((∃ c, v = .c c) ∨ (∃ cs, v = .fp cs) ∨ ∃ xs cs, v = .agg xs ∧ pureL xs = some cs) := by
      cases v <;> simp only [closedL, Bool.false_eq_true] at hc
      · exact ⟨hc, .inl ⟨_, rfl⟩⟩
      · exact ⟨hc, .inr (.inl ⟨_, rfl⟩)⟩
      · split at hc
        · exact ⟨hc, .inr (.inr ⟨_, _, rfl, ‹_›⟩)⟩
        · simp at hc
    cases j with
    | zero => simp at h; subst h; exact hl.2
    | succ j => simp at h; exact closed_at hl.1 j x h
theorem closed_rep {l : List V} {us : List Value} (hc : closedL l = true) (h : RepL w A bl H l us) : RepL w A bl' H' l us := by
  refine ⟨h.1, fun j x u hj hu => ?_⟩
  have hr := h.2 j x u hj hu
  rcases closed_at hc j x hj with ⟨c, rfl⟩ | ⟨cs, rfl⟩ | ⟨xs, cs, rfl, hp⟩
  · cases hr with | c _ _ h => exact .c _ _ h
  · cases hr with | fp _ a h1 h2 => exact .fp _ _ h1 h2
  · cases hr with
    | agg _ vs h1 h2 =>
      refine .agg _ _ h1 fun k y v hk hv => ?_
      obtain ⟨c, rfl⟩ := pureL_at hp k y hk
      cases h2 k _ v hk hv with | c _ _ h => exact .c _ _ h

theorem RepF.put1 {tmps : Array Value} (h : RepF w A bl H fr tmps) (hs : tmps.size = n) {t : Nat} {v : V} {r : Value} (hv : RepV w A bl H v r) (hp : put n (some t) v fr = some fr') : RepF w A bl H fr' (tmps.setIfInBounds t r) := by
  unfold Ev.put at hp
  simp only at hp
  split at hp <;> simp only [Option.some.injEq, reduceCtorEq] at hp
  rename_i ht
  subst hp
  refine ⟨fun t' v' hg => ?_⟩
  simp only [get] at hg
  split at hg
  · rename_i he
    subst he
    simp only [Option.some.injEq] at hg
    subst hg
    exact ⟨r, by simp [hs, ht], hv⟩
  · rename_i hne
    obtain ⟨u, h1, h2⟩ := h.at_ t' v' hg
    exact ⟨u, by rw [Array.getElem?_setIfInBounds_ne (Ne.symm hne)]; exact h1, h2⟩
theorem putL_rep : ∀ {ps : List Nat} {l : List V} {us : List Value} {fr fr' : Fr} {tmps : Array Value}, putL n ps l fr = some fr' → RepL w A bl H l us → RepF w A bl H fr tmps → tmps.size = n →
    RepF w A bl H fr' ((ps.zip us).foldl (fun tmps (t, a) => tmps.setIfInBounds t a) tmps) ∧ ((ps.zip us).foldl (fun tmps (t, a) => tmps.setIfInBounds t a) tmps).size = n ∧ us.length = ps.length
  | [], [], us, fr, fr', tmps, h, hl, hf, hs => by
    simp only [putL, Option.some.injEq] at h
    subst h
    have : us = [] := by have := hl.1; simpa using this.symm
    subst this
    exact ⟨hf, hs, rfl⟩
  | [], _ :: _, us, fr, fr', tmps, h, hl, hf, hs => by simp [putL] at h
  | _ :: _, [], us, fr, fr', tmps, h, hl, hf, hs => by simp [putL] at h
  | t :: ps, v :: l, us, fr, fr', tmps, h, hl, hf, hs => by
    simp only [putL] at h
    split at h
    case h_2 => simp at h
    rename_i fr1 hp
    match us, hl with
    | [], hl => exact absurd hl.1 (by simp)
    | u :: us, hl =>
      have h1 := hf.put1 hs (hl.2 0 v u rfl rfl) hp
      obtain ⟨g1, g2, g3⟩ := putL_rep (tmps := tmps.setIfInBounds t u) h ⟨by simpa using hl.1, fun j x u hj hu => hl.2 (j + 1) x u hj hu⟩ h1 (by simpa using hs)
      exact ⟨g1, g2, by simp [g3]⟩

/-! ## some objects are somebody else's for a while -/
theorem gone_rep (hH : RepH w A bl H) (i : Nat) : RepH w A bl (H.set i .gone) ∧ Le w A bl H w A bl (H.set i .gone) ∧ (∀ j, alive (H.set i .gone) j → alive H j ∧ j ≠ i) := by
  have at_ : ∀ j o, (H.set i .gone)[j]? = some o → o = .gone ∨ (H[j]? = some o ∧ j ≠ i) := fun j o h => by
    by_cases e : j = i
    · subst e
      rw [List.getElem?_set] at h
      simp at h
      exact .inl h.2.symm
    · rw [List.getElem?_set_ne (Ne.symm e)] at h; exact .inr ⟨h, e⟩
  have al : ∀ j, alive (H.set i .gone) j → alive H j ∧ j ≠ i := fun j ⟨o, h1, h2⟩ => by
    rcases at_ j o h1 with rfl | ⟨h, e⟩
    · simp [O.live] at h2
    · exact ⟨⟨o, h, h2⟩, e⟩
  have hl : Le w A bl H w A bl (H.set i .gone) := by
    refine ⟨fun _ _ => rfl, fun _ h => h, by simp, fun j z e xs _ h => ?_, fun j cs _ h => ?_, fun j r s _ h => ?_, rfl, fun _ _ _ _ _ _ _ _ _ _ _ h => h⟩
    · rcases at_ j _ h with h | ⟨h, _⟩
      · cases h
      · exact ⟨_, _, h, Nat.le_refl _, fun _ => ⟨rfl, rfl⟩⟩
    · rcases at_ j _ h with h | ⟨h, _⟩
      · cases h
      · exact ⟨_, h, rfl⟩
    · rcases at_ j _ h with h | ⟨h, _⟩
      · cases h
      · exact ⟨_, _, h, rfl⟩
  refine ⟨⟨fun j o hj => ?_, fun j k b d d' hjk ha ha' => hH.inj j k b d d' hjk (al j ha).1 (al k ha').1, fun j b d ha => hH.lt j b d (al j ha).1, hH.alt, hH.xlt, fun j b d ha => hH.xinj j b d (al j ha).1, hH.base⟩, hl, al⟩
  rcases at_ j o hj with rfl | ⟨h, _⟩
  · trivial
  · cases ho : o.live with
    | false => cases o <;> simp [O.live] at ho; trivial
    | true => exact (hH.obj j o h).mono hl ⟨rfl, hH.alt, fun c hc => (hH.xlt c hc).2, fun _ _ => rfl, Nat.le_refl _, rfl, rfl, rfl⟩ rfl (fun _ _ _ => rfl) (fun b d hb => (hH.lt j b d ⟨o, h, ho⟩ hb).2)
theorem goneAt_rep : ∀ {ids : List Nat} {H : Hp}, RepH w A bl H → RepH w A bl (goneAt ids H) ∧ Le w A bl H w A bl (goneAt ids H) ∧ (∀ j, alive (goneAt ids H) j → alive H j ∧ j ∉ ids)
  | [], H, h => ⟨h, Le.refl _ _ _ _, fun j ha => ⟨ha, by simp⟩⟩
  | i :: r, H, h => by
    obtain ⟨h1, h2, h3⟩ := gone_rep h i
    obtain ⟨g1, g2, g3⟩ := goneAt_rep (ids := r) h1
    exact ⟨g1, h2.trans g2, fun j ha => ⟨(h3 j (g3 j ha).1).1, by simp only [List.mem_cons, not_or]; exact ⟨(h3 j (g3 j ha).1).2, (g3 j ha).2⟩⟩⟩

/-! ## the rounds -/
variable {ps : List Nat} {nm : St → Option St} {rd : Nat → St → Option (Ex × St)}

theorem roundsE_nil {es : List (List V)} {s sE : St} {ex : Ex} {t : Bool} (h : roundsE n ps nm rd es s = some (ex, sE, [], t)) : ex = .nrm ∧ sE = s ∧ t = false := by
  cases es with
  | nil =>
    simp only [roundsE, Option.some.injEq, Prod.mk.injEq] at h
    exact ⟨h.1.symm, h.2.1.symm, h.2.2.2.symm⟩
  | cons e es =>
    simp only [roundsE] at h
    split at h
    case h_2 => simp at h
    split at h
    · split at h
      case h_2 => simp at h
      split at h <;> simp at h
    · simp at h
    · simp at h
theorem roundsE_cons {es : List (List V)} {e : List V} {r : List (List V)} {s sE : St} {ex : Ex} {t : Bool} (h : roundsE n ps nm rd es s = some (ex, sE, e :: r, t)) : closedL e = true ∧ ∃ fr, putL n ps e s.fr = some fr ∧
    ∃ ex1 s1, rd s.hp.length ⟨fr, s.hp⟩ = some (ex1, s1) ∧
      ((ex1 = .nrm ∧ ∃ s2 es', nm ⟨s.fr, s1.hp⟩ = some s2 ∧ roundsE n ps nm rd es' s2 = some (ex, sE, r, t)) ∨ (ex1 ≠ .nrm ∧ ex = ex1 ∧ sE = ⟨s.fr, s1.hp⟩ ∧ r = [] ∧ t = true)) := by
  cases es with
  | nil => simp [roundsE] at h
  | cons e' es =>
    simp only [roundsE] at h
    split at h
    case h_2 => simp at h
    rename_i fr hcl hput
    split at h
    · rename_i s1 h1
      split at h
      case h_2 => simp at h
      rename_i s2 h2
      split at h <;> simp only [Option.some.injEq, Prod.mk.injEq, reduceCtorEq, List.cons.injEq] at h
      rename_i h3
      obtain ⟨rfl, rfl, ⟨rfl, rfl⟩, rfl⟩ := h
      exact ⟨hcl, fr, hput, _, s1, h1, .inl ⟨rfl, s2, es, h2, h3⟩⟩
    · rename_i ex1 s1 hne h1
      simp only [Option.some.injEq, Prod.mk.injEq, List.cons.injEq] at h
      obtain ⟨rfl, rfl, ⟨rfl, rfl⟩, rfl⟩ := h
      exact ⟨hcl, fr, hput, _, s1, h1, .inr ⟨fun e => hne e, rfl, rfl, rfl, rfl⟩⟩
    · simp at h

def jumpOf : Ex → Option Code
  | .nrm => none
  | .exit i => some (.exit i)
  | .ret => some .ret
theorem roundPost_of {l : Nat} {R : Ending → World → Prop} {ex : Ex} {a : Act} {v : Value} (h : (Instr.endRound l (jumpOf ex)).run P w = .ok v w') (hR : R (.returned v) w') : roundPost P l R (exOf ex) a w := by
  cases ex <;> exact ⟨v, w', h, hR⟩
end
end Go.Ev
