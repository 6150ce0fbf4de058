/-
  EV, part I: operations, regions, a loop's head: what the abstract interpreter says, the machine does.
-/
import Derived.Test.YtbilmkcdhodenaaDoorEvH
set_option linter.all false
set_option linter.unusedSimpArgs false
set_option linter.unusedVariables false
namespace Go.Ev

/-- How a run stands: the blocks that may be turned; the round (its record's block, the record) in which it is. -/
structure Rnd where
  L : Nat → Prop
  ro : Option (Nat × Loop)
def Rnd.F (z : Rnd) : Fence := { Fence.wide with round := z.ro.map (·.1) }

/-- A deferred call that is only the mark of a loop over an iterator. -/
def MarkOk (w0 w : World) (A L : Nat → Prop) (d : Deferred) : Prop := ∃ D, d.target = .collected D ∧ w0.heap.size ≤ D ∧ D < w.heap.size ∧ w.heap[D]? = some (.deferred (some [])) ∧ ¬ A D ∧ ¬ L D

/-- The place in the world's run at which a function's frame stands. -/
structure Inv (w0 : World) (A0 : Nat → Prop) (bl0 : Bl) (H0 : Hp) (z : Rnd) (n : Nat) (w : World) (A : Nat → Prop) (bl : Bl) (fr : Fr) (H : Hp) (a : Act) : Prop where
  rep : RepH w A bl H
  frm : RepF w A bl H fr a.tmps
  size : a.tmps.size = n
  marks : (∀ d ∈ a.defers, MarkOk w0 w A (Liv bl H) d) ∧ a.defers.Pairwise (fun d d' => d.target ≠ d'.target)
  rnd : ∀ x, z.ro = some x → a.defers = [] ∧ w.heap[x.1]? = some (.loop x.2) ∧ ¬ A x.1 ∧ ¬ Liv bl H x.1
  le : Le w0 A0 bl0 H0 w A bl H
  evo : Evo w0 A0 z.L w A (Liv bl H)

/-- What is nobody's stays. -/
theorem Evo.far {w w' : World} {A L A' L' : Nat → Prop} (h : Evo w A L w' A' L') {c : Nat} (hc : c < w.heap.size) (hA : ¬ A c) (hL : ¬ L c) : w'.heap[c]? = w.heap[c]? ∧ ¬ A' c ∧ ¬ L' c ∧ c < w'.heap.size :=
  ⟨h.keep c hc hL, fun h1 => (h.from_ c h1).elim hA fun h2 => h2.elim hL fun h3 => by omega, fun h1 => (h.live c h1).elim hL fun h2 => by omega, Nat.lt_of_lt_of_le hc h.size⟩

section
variable {P : Program} {w0 : World} {A0 : Nat → Prop} {bl0 : Bl} {H0 : Hp} {z : Rnd} {K : World → Prop} {n : Nat} {w w' : World} {A A' : Nat → Prop} {bl bl' : Bl} {H H' : Hp} {fr fr' : Fr} {a : Act}

theorem Inv.step (h : Inv w0 A0 bl0 H0 z n w A bl fr H a) (hr : RepH w' A' bl' H') (hf : RepF w' A' bl' H' fr' a.tmps) (hl : Le w0 A0 bl0 H0 w' A' bl' H') (he : Evo w A (Liv bl H) w' A' (Liv bl' H')) : Inv w0 A0 bl0 H0 z n w' A' bl' fr' H' a := by
  refine ⟨hr, hf, h.size, ⟨fun d hd => ?_, h.marks.2⟩, fun x hx => ?_, hl, h.evo.trans he⟩
  · obtain ⟨D, h1, h2, h3, h4, h5, h6⟩ := h.marks.1 d hd
    obtain ⟨g1, g2, g3, g4⟩ := he.far h3 h5 h6
    exact ⟨D, h1, h2, g4, g1.trans h4, g2, g3⟩
  · obtain ⟨h0, h1, h2, h3⟩ := h.rnd x hx
    obtain ⟨g1, g2, g3, _⟩ := he.far (Array.getElem?_eq_some_iff.1 h1).1 h2 h3
    exact ⟨h0, g1.trans h1, g2, g3⟩

theorem Inv.put (h : Inv w0 A0 bl0 H0 z n w A bl fr H a) {d : Option Nat} {v : V} {r : Value} (hv : RepV w A bl H v r) (hp : put n d v fr = some fr') : Inv w0 A0 bl0 H0 z n w A bl fr' H (a.put d r) := by
  unfold Ev.put at hp
  split at hp
  · rename_i t
    split at hp <;> simp only [Option.some.injEq, reduceCtorEq] at hp
    rename_i ht
    subst hp
    refine ⟨h.rep, ⟨fun t' v' hg => ?_⟩, by simp [Act.put, h.size], h.marks, h.rnd, h.le, h.evo⟩
    simp only [get] at hg
    have hs := h.size
    split at hg
    · rename_i he
      subst he
      simp only [Option.some.injEq] at hg
      subst hg
      exact ⟨r, by simp [Act.put, hs, ht], hv⟩
    · rename_i hne
      obtain ⟨u, h1, h2⟩ := h.frm.at_ t' v' hg
      refine ⟨u, ?_, h2⟩
      simp only [Act.put]
      rw [Array.getElem?_setIfInBounds_ne (Ne.symm hne)]
      exact h1
  · simp only [Option.some.injEq] at hp
    subst hp
    exact ⟨h.rep, h.frm, h.size, h.marks, h.rnd, h.le, h.evo⟩

/-- The frame alone turns. -/
theorem Inv.frame (h : Inv w0 A0 bl0 H0 z n w A bl fr H a) (hs : ∀ t v, get fr' t = some v → get fr t = some v) : Inv w0 A0 bl0 H0 z n w A bl fr' H a :=
  ⟨h.rep, ⟨fun t v ht => h.frm.at_ t v (hs t v ht)⟩, h.size, h.marks, h.rnd, h.le, h.evo⟩

theorem wanted_of (hF : RepF w A bl H fr a.tmps) {ops : Array Oper} {o : Oper} {b : Bool} (h : wantedV ops.toList fr o = some b) : Region.wanted o (yielded ops a.tmps) = b := by
  unfold wantedV at h
  unfold Region.wanted
  split at h
  · rename_i hg; rw [hg]; simpa using h
  · rename_i j want hg
    rw [hg]
    simp only
    split at h
    case h_2 => simp at h
    rename_i q hq
    split at h
    case h_2 => simp at h
    rename_i d hd
    have hq' : ops[j]? = some q := by simpa using hq
    split at h <;> simp only [Option.some.injEq, reduceCtorEq] at h
    · rename_i hu
      obtain ⟨u, h1, h2⟩ := hF.at_ d _ hu
      cases h2
      subst h
      have : yielded ops a.tmps j = none := by simp [yielded, hq', hd, h1, undef]
      rw [this]; rfl
    · rename_i b0 hb
      obtain ⟨u, h1, h2⟩ := hF.at_ d _ hb
      have := h2.bool_inv
      subst this
      have : yielded ops a.tmps j = some b0 := by simp [yielded, hq', hd, h1]
      rw [this, ← h]
      cases b0 <;> cases want <;> rfl

theorem RepV.fn_inv {f : FuncId} {caps : List V} {r : Value} (h : RepV w A bl H (.fn f caps) r) : ∃ vs, r = .func (.func f) #[] vs ∧ caps.length = vs.size ∧ ∀ (j : Nat) (x : V) (u : Value), caps[j]? = some x → vs[j]? = some u → RepV w A bl H x u := by
  cases h with | fn _ _ vs h1 h2 => exact ⟨vs, rfl, h1, h2⟩

theorem repL_app {l m : List V} {us vs : List Value} (h : RepL w A bl H l us) (k : RepL w A bl H m vs) : RepL w A bl H (l ++ m) (us ++ vs) := by
  refine ⟨by rw [List.length_append, List.length_append, h.1, k.1], fun j x u hj hu => ?_⟩
  have hl := h.1
  rcases Nat.lt_or_ge j l.length with hlt | hge
  · rw [List.getElem?_append_left hlt] at hj
    rw [List.getElem?_append_left (by omega)] at hu
    exact h.2 j x u hj hu
  · rw [List.getElem?_append_right hge] at hj
    rw [List.getElem?_append_right (by omega), ← hl] at hu
    exact k.2 _ x u hj hu

theorem V.mapT_rep {f : Nat → C → C} (hf : ∀ z x u, RepC w A x u → RepC w A (f z x) u) : ∀ (tags : List Nat) {v : V} {u : Value}, RepV w A bl H v u → RepV w A bl H (v.mapT f tags) u := by
  have h1 : ∀ (z : Nat) {v : V} {u : Value}, RepV w A bl H v u → RepV w A bl H (v.map1 f z) u := by
    intro z v u h
    unfold V.map1
    split
    · cases h with | c _ _ h => exact .c _ _ (hf _ _ _ h)
    · exact h
  have hl : ∀ (tags : List Nat) {l : List V} {us : List Value}, (∀ (j : Nat) (x : V) (u : Value), l[j]? = some x → us[j]? = some u → RepV w A bl H x u) → ∀ (j : Nat) (x : V) (u : Value), (mapTags f tags l)[j]? = some x → us[j]? = some u → RepV w A bl H x u := by
    intro tags
    induction tags with
    | nil => intro l us h; simpa [mapTags] using h
    | cons z r ih =>
      intro l us h
      cases l with
      | nil => exact h
      | cons v l =>
        intro j x u hj hu
        cases us with
        | nil => simp at hu
        | cons u0 us =>
          cases j with
          | zero =>
            simp only [mapTags, List.getElem?_cons_zero, Option.some.injEq] at hj hu
            subst hj; subst hu
            exact h1 z (h 0 _ _ rfl rfl)
          | succ j => exact ih (fun j x u a b => h (j + 1) x u a b) j x u hj hu
  have hlen : ∀ (tags : List Nat) (l : List V), (mapTags f tags l).length = l.length := by
    intro tags
    induction tags with
    | nil => intro l; rfl
    | cons z r ih => intro l; cases l <;> simp [mapTags, ih]
  intro tags v u h
  unfold V.mapT
  split
  · cases h with
    | agg xs vs h1 h2 =>
      refine .agg _ _ (by rw [hlen]; exact h1) fun j x u hj hu => ?_
      exact hl tags (us := vs.toList) (fun j x u a b => h2 j x u a (by simpa using b)) j x u hj (by simpa using hu)
  · cases h with
    | c _ _ h =>
      split
      · exact .c _ _ (hf _ _ _ h)
      · exact .c _ _ h
  · exact h
theorem mapTL_rep {f : Nat → C → C} (hf : ∀ z x u, RepC w A x u → RepC w A (f z x) u) : ∀ (tags : List (List Nat)) {l : List V} {us : List Value}, RepL w A bl H l us → RepL w A bl H (mapTL f tags l) us
  | [], l, us, h => by simpa [mapTL] using h
  | t :: r, [], us, h => by simpa [mapTL] using h
  | t :: r, v :: l, us, h => by
    match us, h with
    | [], h => exact absurd h.1 (by simp)
    | u :: us, h =>
      have ih := mapTL_rep hf r (l := l) (us := us) ⟨by simpa using h.1, fun j x u hj hu => h.2 (j + 1) x u hj hu⟩
      refine ⟨by simp [mapTL, ih.1], fun j x u' hj hu => ?_⟩
      cases j with
      | zero =>
        simp only [mapTL, List.getElem?_cons_zero, Option.some.injEq] at hj hu
        subst hj; subst hu
        exact V.mapT_rep hf t (h.2 0 _ _ rfl rfl)
      | succ j => exact ih.2 j x u' hj hu

theorem RepO.mono2 {i : Nat} {o : O} (hl : Le w A bl H w' A' bl' H') (hbl : bl' i = bl i) (hk : ∀ b d, bl i = some (b, d) → w'.heap[b]? = w.heap[b]?) (hn : ∀ r s, o ≠ .yo r s) (h : RepO w A bl H i o) : RepO w' A' bl' H' i o := by
  cases o with
  | gone => trivial
  | yo r s => exact absurd rfl (hn r s)
  | box cs =>
    obtain ⟨b, arr, t, h1, h2, h3, h4⟩ := h
    exact ⟨b, arr, t, hbl.trans h1, (hk _ _ h1).trans h2, h3, fun j x u hj hu => (h4 j x u hj hu).mono hl⟩
  | mem z e xs =>
    obtain ⟨h1, h2, h3⟩ := h
    refine ⟨h1, fun hn => h2 (hbl ▸ hn), fun b d hb => ?_⟩
    have hb' : bl i = some (b, d) := hbl ▸ hb
    obtain ⟨arr, t, g1, g2, g3⟩ := h3 b d hb'
    refine ⟨arr, t, (hk _ _ hb').trans g1, g2, fun k j cs x hx hj => ?_⟩
    obtain ⟨u, hu, hr⟩ := g3 k j cs x hx hj
    exact ⟨u, hu, hr.mono hl.C hl.A⟩

/-- A round of somebody else's loop has been gone through. -/
theorem yo_step (hH : RepH w A bl H) {i b : Nat} {e : List V} {r : List (List V)} {s : Bool} {X' : Nat → Prop} (hi : H[i]? = some (.yo (e :: r) s)) (hs : soleYo H i = true) (hb : bl i = some (b, 0)) (hY : bl.cx.Y r s b A' X' w') (hy : YEvo w A bl.X b w' A' X') :
    RepH w' A' { bl with X := X' } (H.set i (.yo r s)) ∧ Le w A bl H w' A' { bl with X := X' } (H.set i (.yo r s)) ∧ Evo w A (Liv bl H) w' A' (Liv { bl with X := X' } (H.set i (.yo r s))) := by
  have hil : i < H.length := (List.getElem?_eq_some_iff.1 hi).1
  have hia : alive H i := ⟨_, hi, rfl⟩
  have at_ : ∀ j, (H.set i (.yo r s))[j]? = if j = i then some (.yo r s) else H[j]? := fun j => by
    by_cases h : j = i
    · subst h; rw [if_pos rfl, List.getElem?_set_self hil]
    · rw [if_neg h, List.getElem?_set_ne (Ne.symm h)]
  have al : ∀ j, alive (H.set i (.yo r s)) j → alive H j := fun j ⟨o, h1, h2⟩ => by
    rw [at_] at h1
    split at h1
    · rename_i e; subst e; exact hia
    · exact ⟨o, h1, h2⟩
  have al' : ∀ j, alive H j → alive (H.set i (.yo r s)) j := fun j ⟨o, h1, h2⟩ => by
    by_cases h : j = i
    · exact ⟨.yo r s, by rw [at_, if_pos h], rfl⟩
    · exact ⟨o, by rw [at_, if_neg h]; exact h1, h2⟩
  have far : ∀ {j c d}, j ≠ i → alive H j → bl j = some (c, d) → w'.heap[c]? = w.heap[c]? := fun {j c d} hj ha hc =>
    hy.keep c (hH.lt j c d ha hc).1 (hH.xinj j c d ha hc) fun e => hH.inj j i c d 0 hj ha hia hc (e ▸ hb)
  have hbA := (hH.lt i b 0 hia hb)
  have farA : ∀ c, A c → w'.heap[c]? = w.heap[c]? := fun c hc => hy.keep c (hH.alt c hc) (fun h => (hH.xlt c h).2 hc) (fun e => hbA.2 (e ▸ hc))
  have hl : Le w A bl H w' A' { bl with X := X' } (H.set i (.yo r s)) := by
    refine ⟨farA, hy.inc, by simp, fun j z e' xs' hj h => ?_, fun j cs' hj h => ?_, fun j r' s' hj h => ?_, rfl, fun j z e xs xs' c d n h0 h hc hr => ?_⟩
    · rw [at_] at h
      split at h
      · cases h
      · exact ⟨_, _, h, Nat.le_refl _, fun _ => ⟨rfl, rfl⟩⟩
    · rw [at_] at h
      split at h
      · cases h
      · exact ⟨_, h, rfl⟩
    · rw [at_] at h
      split at h
      · rename_i e; subst e; exact ⟨_, _, hi, rfl⟩
      · exact ⟨_, _, h, rfl⟩
    · have hji : j ≠ i := fun e => by subst e; rw [hi] at h0; cases h0
      rw [rowOf_keep (far hji ⟨_, h0, rfl⟩ hc)]; exact hr
  refine ⟨⟨fun j o hj => ?_, fun j k c d d' hjk ha ha' => hH.inj j k c d d' hjk (al j ha) (al k ha'), fun j c d ha hc => ?_, hy.alt, fun c hc => ⟨hy.xlt c hc, hy.dis c (.inl hc)⟩, fun j c d ha hc hX => ?_, hH.base.mono hy.inc farA⟩, hl, hy.os, hy.tape, hy.output, hy.size, fun c hc hL => ?_, fun c hc => ?_, fun c hc => ?_⟩
  · rw [at_] at hj
    split at hj
    · rename_i e
      subst e
      simp only [Option.some.injEq] at hj
      subst hj
      exact ⟨b, hb, hY⟩
    · rename_i hne
      cases ho : o.live with
      | false => cases o <;> simp [O.live] at ho; trivial
      | true =>
        refine (hH.obj j o hj).mono2 hl rfl (fun c d hc => far hne ⟨o, hj, ho⟩ hc) fun r' s' e => ?_
        subst e
        exact noYo_at hs j r' s' (by rw [List.getElem?_set_ne (Ne.symm hne)]; exact hj)
  · obtain ⟨h1, h2⟩ := hH.lt j c d (al j ha) hc
    exact ⟨Nat.lt_of_lt_of_le h1 hy.size, fun h => (hy.from_ c h).elim h2 fun h => h.elim (hH.xinj j c d (al j ha) hc) fun h => by omega⟩
  · exact (hy.live c hX).elim (hH.xinj j c d (al j ha) hc) fun h => by have := (hH.lt j c d (al j ha) hc).1; omega
  · exact hy.keep c hc (fun h => hL (.inr h)) fun e => hL (.inl ⟨i, 0, hia, e ▸ hb⟩)
  · rcases hc with ⟨j, d, ha, hc⟩ | hc
    · exact .inl (.inl ⟨j, d, al j ha, hc⟩)
    · exact (hy.live c hc).imp (fun h => .inr h) id
  · exact (hy.from_ c hc).imp id fun h => h.imp (fun h => .inr h) id

theorem RepV.yl_inv {i : Nat} {r : Value} (h : RepV w A bl H (.yl i) r) : ∃ b, r = .func (.yield b) #[] #[] ∧ ∀ q s, H[i]? = some (.yo q s) → bl i = some (b, 0) := by
  cases h with | yl _ b h1 h2 => exact ⟨b, rfl, h2⟩

theorem opx_sound {E : Env} {cf : CF} (hcf : CFok P K cf) (hcx : CtxOk P K bl0.cx) (hT : ∀ t y, E.T t = some y → tyOf P t = some y) {g : FuncId} {o : Oper} {v : V} {k : Nat} (hI : Inv w0 A0 bl0 H0 z n w A bl fr H a) (h : opx E cf g fr H o = some (v, fr', H', k)) {next : Act → World → Prop} {Q : Exit → Act → World → Prop}
    (hn : ∀ r w' A' bl', Inv w0 A0 bl0 H0 z n w' A' bl' fr' H' a → RepV w' A' bl' H' v r → next (a.put o.dst r) w') : o.wpIn z.F 0 P a w next Q := by
  have hcx : CtxOk P K bl.cx := by rw [hI.le.cx]; exact hcx
  refine ⟨fun _ _ => trivial, ?_⟩
  have base : ∀ {k}, op0 E.T (E.own g) fr H o = some (v, H', k) → fr' = fr → o.uponIn z.F 0 P a next Q ((o.semAt z.F.round a.eval).run P w) := by
    intro k h0 hfr
    subst hfr
    obtain ⟨r, w', A', bl', hrun, hv, hr, hl, he⟩ := op0_sound hT hI.rep hI.frm h0
    have hI' : Inv w0 A0 bl0 H0 z n w' A' bl' fr' H' a := hI.step hr (hI.frm.mono hl) (hI.le.trans hl) he
    have := hn r w' A' bl' hI' hv
    rw [Oper.semAt_eq _ _ _ (fun c hc => by simp [op0, hc] at h0)]
    rcases hrun with hrun | ⟨hrun, rfl⟩ <;> (rw [hrun]; exact this)
  unfold opx at h
  split at h
  · rename_i f args ts ho
    have hsem : o.semAt z.F.round a.eval = execOp a.eval o := Oper.semAt_eq _ _ _ (by simp [ho])
    rw [hsem]
    split at h
    case h_3 => simp at h
    case h_1 =>
      rename_i gf caps l hf hl
      split at h <;> simp only [Option.some.injEq, Prod.mk.injEq, reduceCtorEq] at h
      rename_i vals fr1 H1 k1 hx
      obtain ⟨rfl, rfl, rfl, _⟩ := h
      obtain ⟨us, hus, hcl, hcr⟩ := (opd_rep hI.frm hf).fn_inv
      obtain ⟨g1, g2⟩ := opdL_arr hI.frm hl
      have hargs : RepL w A bl H (l ++ caps) ((args.map a.eval).toList ++ us.toList) := repL_app ⟨by simpa using g1, fun j x u hj hu => g2 j x u hj (by simpa using hu)⟩ ⟨by simpa using hcl, fun j x u hj hu => hcr j x u hj (by simpa using hu)⟩
      have hargs := mapTL_rep (fun z x u => C.fix_rep (x := x) (u := u) z) (E.fx gf) hargs
      obtain ⟨hent, hc⟩ := xcall_sound hcf hcx hI.rep hI.frm hargs hx
      have hrun : (execOp a.eval o).run P w = .ok (.enter gf (args.map a.eval ++ us)) w := by
        have := hent (args.map a.eval ++ us) w
        simp only [execOp, ho, resolve, hus, Deferred.ofValue, Sem.run_bind, Sem.run_pure, Result.andThen_ok, invoke]
        simpa using this
      rw [hrun, Oper.uponIn_enter]
      have e2 : args.map a.eval ++ us = ((args.map a.eval).toList ++ us.toList).toArray := by simp
      rw [e2]
      refine ⟨fun h => by simp [Rnd.F, Fence.wide] at h, (callsIn_wide (n := 0 - 1)).2 (hc.mono ?_)⟩
      rintro e w' ⟨A', bl', rs, rfl, h1, h2, h3, h4, h5⟩
      exact hn _ w' A' bl' (hI.step h2 h3 (h5 _ _ _ _ hI.le) h4) (pack_rep h1)
    case h_2 =>
      rename_i i l hf hl
      split at h
      case h_2 => simp at h
      rename_i r s hi
      split at h <;> simp only [Option.some.injEq, Prod.mk.injEq, reduceCtorEq] at h
      rename_i hc
      obtain ⟨rfl, rfl, rfl, _⟩ := h
      obtain ⟨hhd, hsole⟩ := hc
      obtain ⟨b, hb, hbl⟩ := (opd_rep hI.frm hf).yl_inv
      have hbl := hbl _ _ hi
      cases r with
      | nil => simp [yoHd] at hhd
      | cons e r =>
        have hle := eqbV_eq hhd
        subst hle
        obtain ⟨b', hb', hY⟩ := hI.rep.obj i _ hi
        rw [hbl] at hb'
        simp only [Option.some.injEq, Prod.mk.injEq, and_true] at hb'
        subst hb'
        obtain ⟨g1, g2⟩ := opdL_arr hI.frm hl
        have hargs : RepL w A bl H l (args.map a.eval).toList := ⟨by simpa using g1, fun j x u hj hu => g2 j x u hj (by simpa using hu)⟩
        obtain ⟨f0, tm, asn, bd, hy1, hy2⟩ := hcx.yield hY bl H _ hargs
        have hrun : (execOp a.eval o).run P w = .ok (.round b f0 tm asn bd) w := by
          have e2 : (args.map a.eval).toList.toArray = args.map a.eval := Array.toArray_toList
          rw [e2] at hy1
          simp only [execOp, ho, resolve, hb, Deferred.ofValue, Sem.run_bind, Sem.run_pure, Result.andThen_ok, invoke]
          simp only [Array.size_empty, Array.empty_append, if_true, ↓reduceIte]
          exact hy1
        rw [hrun, Oper.uponIn_round]
        refine ⟨fun h => by simp [Rnd.F, Fence.wide] at h, RoundIn.mono (F := Fence.wide) (n := 0) hy2 ?_⟩
        rintro en w' ⟨A', X', rfl, hY', hev⟩
        obtain ⟨q1, q2, q3⟩ := yo_step hI.rep hi hsole hbl hY' hev
        exact hn _ w' A' _ (hI.step q1 (hI.frm.mono q2) (hI.le.trans q2) q3) (.bool _)
  · split at h <;> simp only [Option.some.injEq, Prod.mk.injEq, reduceCtorEq] at h
    rename_i h0
    obtain ⟨rfl, rfl, rfl, _⟩ := h
    exact base h0 rfl

/-- The operations of a region, in the text's order. -/
theorem runOps_sound {E : Env} {cf : CF} (hcf : CFok P K cf) (hcx : CtxOk P K bl0.cx) (hT : ∀ t y, E.T t = some y → tyOf P t = some y) {g : FuncId} {ops : Array Oper} {Q : Exit → Act → World → Prop} : ∀ (rest : List Oper) (i : Nat), ops.toList.drop i = rest → ∀ {fr fr' : Fr} {H H' : Hp} {ks : List Nat} {w : World} {A : Nat → Prop} {bl : Bl} {a : Act},
    runOps E cf g n ops.toList rest fr H = some (fr', H', ks) → Inv w0 A0 bl0 H0 z n w A bl fr H a → (∀ w' A' bl' a', Inv w0 A0 bl0 H0 z n w' A' bl' fr' H' a' → Q .normal a' w') → wpOpsIn z.F 0 P ops Q (List.range' i rest.length) a w
  | [], i, _, fr, fr', H, H', ks, w, A, bl, a, h, hI, hQ => by
    simp only [runOps, Option.some.injEq, Prod.mk.injEq] at h
    obtain ⟨rfl, rfl, _⟩ := h
    exact hQ _ _ _ _ hI
  | o :: rest, i, hd, fr, fr', H, H', ks, w, A, bl, a, h, hI, hQ => by
    have hoi : ops[i]? = some o := by
      have : (ops.toList.drop i)[0]? = some o := by rw [hd]; rfl
      simpa using this
    have hd' : ops.toList.drop (i + 1) = rest := by
      rw [← List.drop_drop, hd]; rfl
    simp only [List.length_cons, List.range'_succ, wpOpsIn, hoi]
    simp only [runOps] at h
    split at h
    · simp at h
    · rename_i hw
      split at h
      case h_2 => simp at h
      rename_i fr1 hp
      split at h <;> simp only [Option.some.injEq, Prod.mk.injEq, reduceCtorEq] at h
      rename_i fr2 H2 ks2 hrest
      obtain ⟨rfl, rfl, _⟩ := h
      rw [wanted_of hI.frm hw]
      simp only [Bool.false_eq_true, if_false]
      exact ⟨fun _ _ => trivial, runOps_sound hcf hcx hT rest (i + 1) hd' hrest (hI.put .undef hp) hQ⟩
    · rename_i hw
      split at h
      case h_2 => simp at h
      rename_i v fr1 H1 k1 hx
      split at h
      case h_2 => simp at h
      rename_i fr2 hp
      split at h <;> simp only [Option.some.injEq, Prod.mk.injEq, reduceCtorEq] at h
      rename_i fr3 H3 ks3 hrest
      obtain ⟨rfl, rfl, _⟩ := h
      rw [wanted_of hI.frm hw]
      simp only [if_true]
      exact (opx_sound hcf hcx hT hI hx fun r w' A' bl' hI' hv => runOps_sound hcf hcx hT rest (i + 1) hd' hrest (hI'.put hv hp) hQ)

theorem maskF_get : ∀ {l : List Nat} {fr : Fr} {t : Nat} {v : V}, get (maskF l fr) t = some v → get fr t = some v
  | [], fr, t, v, h => by simp [maskF, get] at h
  | k :: l, fr, t, v, h => by
    simp only [maskF] at h
    split at h
    · rename_i x hx
      simp only [get] at h
      split at h
      · rename_i he
        simp only [Option.some.injEq] at h
        subst h; subst he; exact hx
      · exact maskF_get h
    · exact maskF_get h
theorem maskO_get {l : Option (List Nat)} {t : Nat} {v : V} (h : get (maskO l fr) t = some v) : get fr t = some v := by
  unfold maskO at h
  split at h
  · exact maskF_get h
  · exact h

/-- A region that draws its order: see part J. -/
def DrawOk (P : Program) (K : World → Prop) : Prop := ∀ (E : Env) (cf : CF), CFok P K cf → (∀ t y, E.T t = some y → tyOf P t = some y) → ∀ (g : FuncId) (id n : Nat) (ops : Array Oper) (Q : Exit → Act → World → Prop) (w0 : World) (A0 : Nat → Prop) (bl0 : Bl) (H0 : Hp) (z : Rnd) (fr fr' : Fr) (H H' : Hp) (ks : List Nat) (w : World) (A : Nat → Prop) (bl : Bl) (a : Act),
    CtxOk P K bl0.cx → runOps E cf g n ops.toList ops.toList fr H = some (fr', H', ks) → drawOk (E.own g) ops.toList ks = true → Inv w0 A0 bl0 H0 z n w A bl fr H a → (∀ w' A' bl' a', Inv w0 A0 bl0 H0 z n w' A' bl' fr' H' a' → Q .normal a' w') → (Code.region id ops true).wpIn z.F 0 P Q a w

theorem region_sound (hdraw : DrawOk P K) {E : Env} {cf : CF} (hcf : CFok P K cf) (hcx : CtxOk P K bl0.cx) (hT : ∀ t y, E.T t = some y → tyOf P t = some y) {g : FuncId} {id : Nat} {ops : Array Oper} {draw : Bool} {s s' : St} (h : region E cf g n id ops.toList draw s = some s') {Q : Exit → Act → World → Prop}
    (hI : Inv w0 A0 bl0 H0 z n w A bl s.fr s.hp a) (hQ : ∀ w' A' bl' a', Inv w0 A0 bl0 H0 z n w' A' bl' s'.fr s'.hp a' → Q .normal a' w') : (Code.region id ops draw).wpIn z.F 0 P Q a w := by
  unfold region at h
  split at h
  case h_2 => simp at h
  rename_i fr1 H1 ks hrun
  split at h <;> simp only [Option.some.injEq, reduceCtorEq] at h
  rename_i hc
  subst h
  have hQ' : ∀ w' A' bl' a', Inv w0 A0 bl0 H0 z n w' A' bl' fr1 H1 a' → Q .normal a' w' := fun w' A' bl' a' hI' => hQ w' A' bl' a' (hI'.frame fun t v ht => maskO_get ht)
  cases draw with
  | false =>
    refine wpIn_region ?_
    have := runOps_sound (Q := Q) hcf hcx hT ops.toList 0 (by simp) hrun hI hQ'
    rw [List.range_eq_range']
    simpa using this
  | true => exact hdraw E cf hcf hT g id n ops Q w0 A0 bl0 H0 z _ _ _ _ ks w A bl a hcx hrun (by simpa using hc) hI hQ'

def exOf : Ex → Exit
  | .nrm => .normal
  | .exit i => .exit i
  | .ret => .ret

/-- What nothing leads to has fallen away. -/
theorem sub_le {A : Nat → Prop} (hl : Le w0 A0 bl0 H0 w A bl H) {keep : List Nat} {h0 : Hp} (ht : take keep H keep = some h0) (hpre : ∀ i, i < H0.length → keep[i]? = some i) : Le w0 A0 bl0 H0 w A (subBl bl keep) h0 := by
  obtain ⟨t1, t2⟩ := take_at ht
  have at_ : ∀ {i o}, i < H0.length → h0[i]? = some o → ∃ o', H[i]? = some o' ∧ o = o'.ren (idx keep) := by
    intro i o hi ho
    obtain ⟨o', k1, k2⟩ := t2 i i (hpre i hi)
    rw [k2] at ho
    simp only [Option.some.injEq] at ho
    exact ⟨o', k1, ho.symm⟩
  have hb : ∀ {i}, i < H0.length → subBl bl keep i = bl i := fun {i} hi => by simp [subBl, hpre i hi]
  refine ⟨hl.C, hl.A, ?_, fun i z e xs hi h => ?_, fun i cs hi h => ?_, fun i r s hi h => ?_, hl.cx, fun i z e xs xs' b d n h1 h2 => ?_⟩
  · rw [t1]
    rcases Nat.eq_zero_or_pos H0.length with h | h
    · omega
    · have := (List.getElem?_eq_some_iff.1 (hpre (H0.length - 1) (by omega))).1
      omega
  · obtain ⟨o', k1, k2⟩ := at_ hi h
    have := O.ren_mem k2
    subst this
    obtain ⟨e0, xs0, q1, q2, q3⟩ := hl.mem i z e xs hi k1
    exact ⟨e0, xs0, q1, q2, fun he => ⟨(q3 he).1, (hb hi).trans (q3 he).2⟩⟩
  · obtain ⟨o', k1, k2⟩ := at_ hi h
    obtain ⟨cs0, rfl, _⟩ := O.ren_box k2
    obtain ⟨cs1, q1, q2⟩ := hl.box i cs0 hi k1
    exact ⟨cs1, q1, (hb hi).trans q2⟩
  · obtain ⟨o', k1, k2⟩ := at_ hi h
    have := O.ren_yo k2
    subst this
    obtain ⟨r1, s1, q1, q2⟩ := hl.yo i _ _ hi k1
    exact ⟨r1, s1, q1, (hb hi).trans q2⟩
  · have hi := (List.getElem?_eq_some_iff.1 h1).1
    obtain ⟨o', k1, k2⟩ := at_ hi h2
    have := O.ren_mem k2
    subst this
    exact hl.row i z e xs xs' b d n h1 k1

theorem gcK_pre {m : Nat} {roots : List Nat} {i : Nat} (hi : i < m) : (gcK m roots H)[i]? = some i := by
  unfold gcK
  dsimp only
  rw [List.getElem?_append_left (by simpa using hi)]
  simp [hi]

/-- At a loop's head. -/
theorem norm_parts {E : Env} {g : FuncId} {body : Code} {s s' : St} {tmps : Array Value} (h : norm E g H0.length body s = some s') (hr : RepH w A bl s.hp) (hf : RepF w A bl s.hp s.fr tmps) (hl : Le w0 A0 bl0 H0 w A bl s.hp) :
    ∃ bl', RepH w A bl' s'.hp ∧ RepF w A bl' s'.hp s'.fr tmps ∧ Le w0 A0 bl0 H0 w A bl' s'.hp ∧ ∀ c, Liv bl' s'.hp c → Liv bl s.hp c := by
  unfold norm at h
  dsimp only at h
  have hf1 : RepF w A bl s.hp (maskO ((firstReg body).bind (E.head g)) s.fr) tmps := ⟨fun t v ht => hf.at_ t v (maskO_get ht)⟩
  split at h
  · simp only [Option.some.injEq] at h
    subst h
    exact ⟨bl, hr, hf1, hl, fun _ h => h⟩
  · split at h
    case h_2 => simp at h
    rename_i h0 ht
    split at h <;> simp only [Option.some.injEq, reduceCtorEq] at h
    rename_i hd
    subst h
    refine ⟨_, young_rep (sub_rep hr ht hd), ⟨fun t v hg => ?_⟩, young_le (sub_le hl ht fun i hi => gcK_pre hi) (Nat.le_refl _), fun c hc => sub_liv ht (young_liv.1 hc)⟩
    obtain ⟨x, h1, rfl⟩ := youngF_get hg
    obtain ⟨y, h4, rfl⟩ := renF_get h1
    obtain ⟨u, h2, h3⟩ := hf1.at_ t y h4
    exact ⟨u, h2, (h3.ren (sub_ren ht)).young⟩
/-- Fewer blocks may be turned. -/
theorem Evo.less {L : Nat → Prop} {L' : Nat → Prop} (hh : ∀ c, L' c → L c) : Evo w A L w A L' := ⟨rfl, rfl, rfl, Nat.le_refl _, fun _ _ _ => rfl, fun c hc => .inl (hh c hc), fun _ h => .inl h⟩
theorem norm_sound {E : Env} {g : FuncId} {body : Code} {s s' : St} (h : norm E g H0.length body s = some s') (hI : Inv w0 A0 bl0 H0 z n w A bl s.fr s.hp a) : ∃ bl', Inv w0 A0 bl0 H0 z n w A bl' s'.fr s'.hp a := by
  obtain ⟨bl', h1, h2, h3, h4⟩ := norm_parts h hI.rep hI.frm hI.le
  exact ⟨bl', hI.step h1 h2 h3 (Evo.less h4)⟩

/-- What is said of a piece of code. -/
def CSound (P : Program) (K : World → Prop) (n : Nat) (c : Code) (m : Nat) (s : St) (ex : Ex) (s' : St) : Prop := ∀ (w0 : World) (A0 : Nat → Prop) (bl0 : Bl) (H0 : Hp) (z : Rnd) (w : World) (A : Nat → Prop) (bl : Bl) (a : Act) (Q : Exit → Act → World → Prop), H0.length = m → CtxOk P K bl0.cx →
  Inv w0 A0 bl0 H0 z n w A bl s.fr s.hp a → (∀ w' A' bl' a', Inv w0 A0 bl0 H0 z n w' A' bl' s'.fr s'.hp a' → Q (exOf ex) a' w') → c.wpIn z.F 0 P Q a w
end
end Go.Ev
