/-
  EV, part I: regions, code, functions: what the abstract interpreter says, the machine does.
-/
import Derived.Test.YtkdinelcmanfcaaEvH
import Derived.LoopN
import Derived.Scope
set_option linter.unusedSimpArgs false
set_option linter.unusedVariables false
namespace Go.Ev

/-- The place in the world's run at which a function's frame stands. -/
structure Inv (w0 : World) (A0 : Nat → Prop) (bl0 : Nat → Option (Nat × Nat)) (H0 : Hp) (n : Nat) (w : World) (A : Nat → Prop) (bl : Nat → Option (Nat × Nat)) (fr : Fr) (H : Hp) (a : Act) : Prop where
  rep : RepH w A bl H
  frm : RepF w A bl H fr a.tmps
  size : a.tmps.size = n
  defers : a.defers = []
  le : Le w0 A0 bl0 H0 w A bl H
  evo : Evo w0 A0 (Liv bl0 H0) w A (Liv bl H)

section
variable {P : Program} {w0 : World} {A0 : Nat → Prop} {bl0 : Nat → Option (Nat × Nat)} {H0 : Hp} {n : Nat} {w w' : World} {A A' : Nat → Prop} {bl bl' : Nat → Option (Nat × Nat)} {H H' : Hp} {fr fr' : Fr} {a : Act}

theorem Inv.put (h : Inv w0 A0 bl0 H0 n w A bl fr H a) {d : Option Nat} {v : V} {r : Value} (hv : RepV w A bl H v r) (hp : put n d v fr = some fr') : Inv w0 A0 bl0 H0 n w A bl fr' H (a.put d r) := by
  unfold Ev.put at hp
  split at hp
  · rename_i t
    split at hp <;> simp only [Option.some.injEq, reduceCtorEq] at hp
    rename_i ht
    subst hp
    refine ⟨h.rep, ⟨fun t' v' hg => ?_⟩, by simp [Act.put, h.size], h.defers, h.le, h.evo⟩
    simp only [get] at hg
    have hs := h.size
    split at hg
    · rename_i he
      subst he
      simp only [Option.some.injEq] at hg
      subst hg
      exact ⟨r, by simp [Act.put, hs, ht], hv⟩
    · rename_i hne
      obtain ⟨u, h1, h2⟩ := h.frm.at_ t' v' hg
      refine ⟨u, ?_, h2⟩
      simp only [Act.put]
      rw [Array.getElem?_setIfInBounds_ne (Ne.symm hne)]
      exact h1
  · simp only [Option.some.injEq] at hp
    subst hp
    exact ⟨h.rep, h.frm, h.size, h.defers, h.le, h.evo⟩

/-- The frame alone turns. -/
theorem Inv.frame (h : Inv w0 A0 bl0 H0 n w A bl fr H a) (hs : ∀ t v, get fr' t = some v → get fr t = some v) : Inv w0 A0 bl0 H0 n w A bl fr' H a :=
  ⟨h.rep, ⟨fun t v ht => h.frm.at_ t v (hs t v ht)⟩, h.size, h.defers, h.le, h.evo⟩

theorem wanted_of (hF : RepF w A bl H fr a.tmps) {ops : Array Oper} {o : Oper} {b : Bool} (h : wantedV ops.toList fr o = some b) : Region.wanted o (yielded ops a.tmps) = b := by
  unfold wantedV at h
  unfold Region.wanted
  split at h
  · rename_i hg; rw [hg]; simpa using h
  · rename_i j want hg
    rw [hg]
    simp only
    split at h
    case h_2 => simp at h
    rename_i q hq
    split at h
    case h_2 => simp at h
    rename_i d hd
    have hq' : ops[j]? = some q := by simpa using hq
    split at h <;> simp only [Option.some.injEq, reduceCtorEq] at h
    · rename_i hu
      obtain ⟨u, h1, h2⟩ := hF.at_ d _ hu
      cases h2
      subst h
      have : yielded ops a.tmps j = none := by simp [yielded, hq', hd, h1, undef]
      rw [this]; rfl
    · rename_i b0 hb
      obtain ⟨u, h1, h2⟩ := hF.at_ d _ hb
      have := h2.bool_inv
      subst this
      have : yielded ops a.tmps j = some b0 := by simp [yielded, hq', hd, h1]
      rw [this, ← h]
      cases b0 <;> cases want <;> rfl

theorem RepV.fn_inv {f : FuncId} {caps : List V} {r : Value} (h : RepV w A bl H (.fn f caps) r) : ∃ vs, r = .func (.func f) #[] vs ∧ caps.length = vs.size ∧ ∀ (j : Nat) (x : V) (u : Value), caps[j]? = some x → vs[j]? = some u → RepV w A bl H x u := by
  cases h with | fn _ _ vs h1 h2 => exact ⟨vs, rfl, h1, h2⟩

theorem repL_app {l m : List V} {us vs : List Value} (h : RepL w A bl H l us) (k : RepL w A bl H m vs) : RepL w A bl H (l ++ m) (us ++ vs) := by
  refine ⟨by rw [List.length_append, List.length_append, h.1, k.1], fun j x u hj hu => ?_⟩
  have hl := h.1
  rcases Nat.lt_or_ge j l.length with hlt | hge
  · rw [List.getElem?_append_left hlt] at hj
    rw [List.getElem?_append_left (by omega)] at hu
    exact h.2 j x u hj hu
  · rw [List.getElem?_append_right hge] at hj
    rw [List.getElem?_append_right (by omega), ← hl] at hu
    exact k.2 _ x u hj hu

theorem V.mapT_rep {f : Nat → C → C} (hf : ∀ z x u, RepC w A x u → RepC w A (f z x) u) : ∀ (tags : List Nat) {v : V} {u : Value}, RepV w A bl H v u → RepV w A bl H (v.mapT f tags) u := by
  have h1 : ∀ (z : Nat) {v : V} {u : Value}, RepV w A bl H v u → RepV w A bl H (v.map1 f z) u := by
    intro z v u h
    unfold V.map1
    split
    · cases h with | c _ _ h => exact .c _ _ (hf _ _ _ h)
    · exact h
  have hl : ∀ (tags : List Nat) {l : List V} {us : List Value}, (∀ (j : Nat) (x : V) (u : Value), l[j]? = some x → us[j]? = some u → RepV w A bl H x u) → ∀ (j : Nat) (x : V) (u : Value), (mapTags f tags l)[j]? = some x → us[j]? = some u → RepV w A bl H x u := by
    intro tags
    induction tags with
    | nil => intro l us h; simpa [mapTags] using h
    | cons z r ih =>
      intro l us h
      cases l with
      | nil => exact h
      | cons v l =>
        intro j x u hj hu
        cases us with
        | nil => simp at hu
        | cons u0 us =>
          cases j with
          | zero =>
            simp only [mapTags, List.getElem?_cons_zero, Option.some.injEq] at hj hu
            subst hj; subst hu
            exact h1 z (h 0 _ _ rfl rfl)
          | succ j => exact ih (fun j x u a b => h (j + 1) x u a b) j x u hj hu
  have hlen : ∀ (tags : List Nat) (l : List V), (mapTags f tags l).length = l.length := by
    intro tags
    induction tags with
    | nil => intro l; rfl
    | cons z r ih => intro l; cases l <;> simp [mapTags, ih]
  intro tags v u h
  unfold V.mapT
  split
  · cases h with
    | agg xs vs h1 h2 =>
      refine .agg _ _ (by rw [hlen]; exact h1) fun j x u hj hu => ?_
      exact hl tags (us := vs.toList) (fun j x u a b => h2 j x u a (by simpa using b)) j x u hj (by simpa using hu)
  · cases h with
    | c _ _ h =>
      split
      · exact .c _ _ (hf _ _ _ h)
      · exact .c _ _ h
  · exact h
theorem mapTL_rep {f : Nat → C → C} (hf : ∀ z x u, RepC w A x u → RepC w A (f z x) u) : ∀ (tags : List (List Nat)) {l : List V} {us : List Value}, RepL w A bl H l us → RepL w A bl H (mapTL f tags l) us
  | [], l, us, h => by simpa [mapTL] using h
  | t :: r, [], us, h => by simpa [mapTL] using h
  | t :: r, v :: l, us, h => by
    match us, h with
    | [], h => exact absurd h.1 (by simp)
    | u :: us, h =>
      have ih := mapTL_rep hf r (l := l) (us := us) ⟨by simpa using h.1, fun j x u hj hu => h.2 (j + 1) x u hj hu⟩
      refine ⟨by simp [mapTL, ih.1], fun j x u' hj hu => ?_⟩
      cases j with
      | zero =>
        simp only [mapTL, List.getElem?_cons_zero, Option.some.injEq] at hj hu
        subst hj; subst hu
        exact V.mapT_rep hf t (h.2 0 _ _ rfl rfl)
      | succ j => exact ih.2 j x u' hj hu

theorem opx_sound {E : Env} {cf : CF} (hcf : CFok P cf) (hT : ∀ t y, E.T t = some y → tyOf P t = some y) {g : FuncId} {o : Oper} {v : V} {k : Nat} (hI : Inv w0 A0 bl0 H0 n w A bl fr H a) (h : opx E cf g fr H o = some (v, fr', H', k)) {next : Act → World → Prop} {Q : Exit → Act → World → Prop}
    (hn : ∀ r w' A' bl', Inv w0 A0 bl0 H0 n w' A' bl' fr' H' a → RepV w' A' bl' H' v r → next (a.put o.dst r) w') : o.wp P a w next Q := by
  have base : ∀ {k}, op0 E.T (E.own g) fr H o = some (v, H', k) → fr' = fr → o.wp P a w next Q := by
    intro k h0 hfr
    subst hfr
    obtain ⟨r, w', A', bl', hrun, hv, hr, hl, he⟩ := op0_sound hT hI.rep hI.frm h0
    have hI' : Inv w0 A0 bl0 H0 n w' A' bl' fr' H' a := ⟨hr, hI.frm.mono hl, hI.size, hI.defers, hI.le.trans hl, hI.evo.trans he⟩
    have := hn r w' A' bl' hI' hv
    unfold Oper.wp
    rcases hrun with hrun | ⟨hrun, rfl⟩ <;> (rw [hrun]; exact this)
  unfold opx at h
  split at h
  · rename_i f args ts ho
    split at h
    case h_2 => simp at h
    rename_i gf caps l hf hl
    split at h <;> simp only [Option.some.injEq, Prod.mk.injEq, reduceCtorEq] at h
    rename_i vals fr1 H1 k1 hx
    obtain ⟨rfl, rfl, rfl, _⟩ := h
    obtain ⟨us, hus, hcl, hcr⟩ := (opd_rep hI.frm hf).fn_inv
    obtain ⟨g1, g2⟩ := opdL_arr hI.frm hl
    have hargs : RepL w A bl H (l ++ caps) ((args.map a.eval).toList ++ us.toList) := repL_app ⟨by simpa using g1, fun j x u hj hu => g2 j x u hj (by simpa using hu)⟩ ⟨by simpa using hcl, fun j x u hj hu => hcr j x u hj (by simpa using hu)⟩
    have hargs := mapTL_rep (fun z x u => C.fix_rep (x := x) (u := u) z) (E.fx gf) hargs
    obtain ⟨hent, hc⟩ := xcall_sound hcf hI.rep hI.frm hargs hx
    have hrun : (execOp a.eval o).run P w = .ok (.enter gf (args.map a.eval ++ us)) w := by
      have := hent (args.map a.eval ++ us) w
      simp only [execOp, ho, resolve, hus, Deferred.ofValue, Sem.run_bind, Sem.run_pure, Result.andThen_ok, invoke]
      simpa using this
    unfold Oper.wp
    rw [hrun, Oper.upon_enter]
    have e2 : args.map a.eval ++ us = ((args.map a.eval).toList ++ us.toList).toArray := by simp
    rw [e2]
    refine hc.mono ?_
    rintro e w' ⟨A', bl', rs, rfl, h1, h2, h3, h4, h5⟩
    exact hn _ w' A' bl' ⟨h2, h3, hI.size, hI.defers, h5 _ _ _ _ hI.le, hI.evo.trans h4⟩ (pack_rep h1)
  · split at h <;> simp only [Option.some.injEq, Prod.mk.injEq, reduceCtorEq] at h
    rename_i h0
    obtain ⟨rfl, rfl, rfl, _⟩ := h
    exact base h0 rfl

/-- The operations of a region, in the text's order. -/
theorem runOps_sound {E : Env} {cf : CF} (hcf : CFok P cf) (hT : ∀ t y, E.T t = some y → tyOf P t = some y) {g : FuncId} {ops : Array Oper} {Q : Exit → Act → World → Prop} : ∀ (rest : List Oper) (i : Nat), ops.toList.drop i = rest → ∀ {fr fr' : Fr} {H H' : Hp} {ks : List Nat} {w : World} {A : Nat → Prop} {bl : Nat → Option (Nat × Nat)} {a : Act},
    runOps E cf g n ops.toList rest fr H = some (fr', H', ks) → Inv w0 A0 bl0 H0 n w A bl fr H a → (∀ w' A' bl' a', Inv w0 A0 bl0 H0 n w' A' bl' fr' H' a' → Q .normal a' w') → wpOps P ops Q (List.range' i rest.length) a w
  | [], i, _, fr, fr', H, H', ks, w, A, bl, a, h, hI, hQ => by
    simp only [runOps, Option.some.injEq, Prod.mk.injEq] at h
    obtain ⟨rfl, rfl, _⟩ := h
    exact hQ _ _ _ _ hI
  | o :: rest, i, hd, fr, fr', H, H', ks, w, A, bl, a, h, hI, hQ => by
    have hoi : ops[i]? = some o := by
      have : (ops.toList.drop i)[0]? = some o := by rw [hd]; rfl
      simpa using this
    have hd' : ops.toList.drop (i + 1) = rest := by
      rw [← List.drop_drop, hd]; rfl
    simp only [List.length_cons, List.range'_succ, wpOps, hoi]
    simp only [runOps] at h
    split at h
    · simp at h
    · rename_i hw
      split at h
      case h_2 => simp at h
      rename_i fr1 hp
      split at h <;> simp only [Option.some.injEq, Prod.mk.injEq, reduceCtorEq] at h
      rename_i fr2 H2 ks2 hrest
      obtain ⟨rfl, rfl, _⟩ := h
      rw [wanted_of hI.frm hw]
      simp only [Bool.false_eq_true, if_false]
      exact runOps_sound hcf hT rest (i + 1) hd' hrest (hI.put .undef hp) hQ
    · rename_i hw
      split at h
      case h_2 => simp at h
      rename_i v fr1 H1 k1 hx
      split at h
      case h_2 => simp at h
      rename_i fr2 hp
      split at h <;> simp only [Option.some.injEq, Prod.mk.injEq, reduceCtorEq] at h
      rename_i fr3 H3 ks3 hrest
      obtain ⟨rfl, rfl, _⟩ := h
      rw [wanted_of hI.frm hw]
      simp only [if_true]
      exact .inl (opx_sound hcf hT hI hx fun r w' A' bl' hI' hv => runOps_sound hcf hT rest (i + 1) hd' hrest (hI'.put hv hp) hQ)

theorem maskF_get : ∀ {l : List Nat} {fr : Fr} {t : Nat} {v : V}, get (maskF l fr) t = some v → get fr t = some v
  | [], fr, t, v, h => by simp [maskF, get] at h
  | k :: l, fr, t, v, h => by
    simp only [maskF] at h
    split at h
    · rename_i x hx
      simp only [get] at h
      split at h
      · rename_i he
        simp only [Option.some.injEq] at h
        subst h; subst he; exact hx
      · exact maskF_get h
    · exact maskF_get h
theorem maskO_get {l : Option (List Nat)} {t : Nat} {v : V} (h : get (maskO l fr) t = some v) : get fr t = some v := by
  unfold maskO at h
  split at h
  · exact maskF_get h
  · exact h

/-- A region that draws its order: see part J. -/
def DrawOk (P : Program) : Prop := ∀ (E : Env) (cf : CF), CFok P cf → (∀ t y, E.T t = some y → tyOf P t = some y) → ∀ (g : FuncId) (id n : Nat) (ops : Array Oper) (Q : Exit → Act → World → Prop) (w0 : World) (A0 : Nat → Prop) (bl0 : Nat → Option (Nat × Nat)) (H0 : Hp) (fr fr' : Fr) (H H' : Hp) (ks : List Nat) (w : World) (A : Nat → Prop) (bl : Nat → Option (Nat × Nat)) (a : Act),
    runOps E cf g n ops.toList ops.toList fr H = some (fr', H', ks) → drawOk ops.toList ks = true → Inv w0 A0 bl0 H0 n w A bl fr H a → (∀ w' A' bl' a', Inv w0 A0 bl0 H0 n w' A' bl' fr' H' a' → Q .normal a' w') → (Code.region id ops true).wp P Q a w

theorem region_sound (hdraw : DrawOk P) {E : Env} {cf : CF} (hcf : CFok P cf) (hT : ∀ t y, E.T t = some y → tyOf P t = some y) {g : FuncId} {id : Nat} {ops : Array Oper} {draw : Bool} {s s' : St} (h : region E cf g n id ops.toList draw s = some s') {Q : Exit → Act → World → Prop}
    (hI : Inv w0 A0 bl0 H0 n w A bl s.fr s.hp a) (hQ : ∀ w' A' bl' a', Inv w0 A0 bl0 H0 n w' A' bl' s'.fr s'.hp a' → Q .normal a' w') : (Code.region id ops draw).wp P Q a w := by
  unfold region at h
  split at h
  case h_2 => simp at h
  rename_i fr1 H1 ks hrun
  split at h <;> simp only [Option.some.injEq, reduceCtorEq] at h
  rename_i hc
  subst h
  have hQ' : ∀ w' A' bl' a', Inv w0 A0 bl0 H0 n w' A' bl' fr1 H1 a' → Q .normal a' w' := fun w' A' bl' a' hI' => hQ w' A' bl' a' (hI'.frame fun t v ht => maskO_get ht)
  cases draw with
  | false =>
    refine wp_region ?_
    have := runOps_sound (Q := Q) hcf hT ops.toList 0 (by simp) hrun hI hQ'
    rw [List.range_eq_range']
    simpa using this
  | true => exact hdraw E cf hcf hT g id n ops Q w0 A0 bl0 H0 _ _ _ _ ks w A bl a hrun (by simpa using hc) hI hQ'

def exOf : Ex → Exit
  | .nrm => .normal
  | .exit i => .exit i
  | .ret => .ret

/-- What nothing leads to has fallen away. -/
theorem sub_le {A : Nat → Prop} (hl : Le w0 A0 bl0 H0 w A bl H) {keep : List Nat} {h0 : Hp} (ht : take keep H keep = some h0) (hpre : ∀ i, i < H0.length → keep[i]? = some i) : Le w0 A0 bl0 H0 w A (subBl bl keep) h0 := by
  obtain ⟨t1, t2⟩ := take_at ht
  have at_ : ∀ {i o}, i < H0.length → h0[i]? = some o → ∃ o', H[i]? = some o' ∧ o = o'.ren (idx keep) := by
    intro i o hi ho
    obtain ⟨o', k1, k2⟩ := t2 i i (hpre i hi)
    rw [k2] at ho
    simp only [Option.some.injEq] at ho
    exact ⟨o', k1, ho.symm⟩
  have hb : ∀ {i}, i < H0.length → subBl bl keep i = bl i := fun {i} hi => by simp [subBl, hpre i hi]
  refine ⟨hl.C, hl.A, ?_, fun i z e xs hi h => ?_, fun i cs hi h => ?_, fun i z e xs xs' b d n h1 h2 => ?_⟩
  · rw [t1]
    rcases Nat.eq_zero_or_pos H0.length with h | h
    · omega
    · have := (List.getElem?_eq_some_iff.1 (hpre (H0.length - 1) (by omega))).1
      omega
  · obtain ⟨o', k1, k2⟩ := at_ hi h
    have := O.ren_mem k2
    subst this
    obtain ⟨e0, xs0, q1, q2, q3⟩ := hl.mem i z e xs hi k1
    exact ⟨e0, xs0, q1, q2, fun he => ⟨(q3 he).1, (hb hi).trans (q3 he).2⟩⟩
  · obtain ⟨o', k1, k2⟩ := at_ hi h
    obtain ⟨cs0, rfl, _⟩ := O.ren_box k2
    obtain ⟨cs1, q1, q2⟩ := hl.box i cs0 hi k1
    exact ⟨cs1, q1, (hb hi).trans q2⟩
  · have hi := (List.getElem?_eq_some_iff.1 h1).1
    obtain ⟨o', k1, k2⟩ := at_ hi h2
    have := O.ren_mem k2
    subst this
    exact hl.row i z e xs xs' b d n h1 k1

theorem sub_evo (he : Evo w0 A0 (Liv bl0 H0) w A (Liv bl H)) {keep : List Nat} {h0 : Hp} (ht : take keep H keep = some h0) : Evo w0 A0 (Liv bl0 H0) w A (Liv (subBl bl keep) h0) :=
  ⟨he.os, he.tape, he.output, he.size, he.keep, fun b hb => he.live b (sub_liv ht hb), he.from_⟩

theorem gcK_pre {m : Nat} {roots : List Nat} {i : Nat} (hi : i < m) : (gcK m roots H)[i]? = some i := by
  unfold gcK
  dsimp only
  rw [List.getElem?_append_left (by simpa using hi)]
  simp [hi]

/-- At a loop's head. -/
theorem norm_sound {E : Env} {g : FuncId} {body : Code} {s s' : St} (h : norm E g H0.length body s = some s') (hI : Inv w0 A0 bl0 H0 n w A bl s.fr s.hp a) : ∃ bl', Inv w0 A0 bl0 H0 n w A bl' s'.fr s'.hp a := by
  unfold norm at h
  dsimp only at h
  have hI1 : Inv w0 A0 bl0 H0 n w A bl (maskO ((firstReg body).bind (E.head g)) s.fr) s.hp a := hI.frame fun t v ht => maskO_get ht
  split at h
  · simp only [Option.some.injEq] at h
    subst h
    exact ⟨bl, hI1⟩
  · split at h
    case h_2 => simp at h
    rename_i h0 ht
    split at h <;> simp only [Option.some.injEq, reduceCtorEq] at h
    rename_i hd
    subst h
    have he := sub_evo hI.evo ht
    refine ⟨_, young_rep (sub_rep hI.rep ht hd), ⟨fun t v hg => ?_⟩, hI.size, hI.defers, young_le (sub_le hI.le ht fun i hi => gcK_pre hi) (Nat.le_refl _),
      ⟨he.os, he.tape, he.output, he.size, he.keep, fun b hb => he.live b (young_liv.1 hb), he.from_⟩⟩
    obtain ⟨x, h1, rfl⟩ := youngF_get hg
    obtain ⟨y, h4, rfl⟩ := renF_get h1
    obtain ⟨u, h2, h3⟩ := hI1.frm.at_ t y h4
    exact ⟨u, h2, (h3.ren (sub_ren ht)).young⟩

/-- The code of a function's body. -/
theorem exec_sound (hdraw : DrawOk P) {E : Env} {cf : CF} (hcf : CFok P cf) (hT : ∀ t y, E.T t = some y → tyOf P t = some y) {g : FuncId} {K : Nat} : ∀ (c : Code) {s s' : St} {ex : Ex} {w : World} {A : Nat → Prop} {bl : Nat → Option (Nat × Nat)} {a : Act} {Q : Exit → Act → World → Prop},
    exec (region E cf g n) (fun b f => iterN K fun s => match norm E g H0.length b s with | some s => f s | none => none) c s = some (ex, s') → Inv w0 A0 bl0 H0 n w A bl s.fr s.hp a → (∀ w' A' bl' a', Inv w0 A0 bl0 H0 n w' A' bl' s'.fr s'.hp a' → Q (exOf ex) a' w') → c.wp P Q a w := by
  intro c
  induction c with
  | skip =>
    intro s s' ex w A bl a Q h hI hQ
    simp only [exec, Option.some.injEq, Prod.mk.injEq] at h
    obtain ⟨rfl, rfl⟩ := h
    exact wp_skip (hQ _ _ _ _ hI)
  | label l =>
    intro s s' ex w A bl a Q h hI hQ
    simp only [exec, Option.some.injEq, Prod.mk.injEq] at h
    obtain ⟨rfl, rfl⟩ := h
    exact wp_label (hQ _ _ _ _ hI)
  | region id ops draw =>
    intro s s' ex w A bl a Q h hI hQ
    simp only [exec] at h
    split at h <;> simp only [Option.some.injEq, Prod.mk.injEq, reduceCtorEq] at h
    rename_i s1 hs1
    obtain ⟨rfl, rfl⟩ := h
    exact region_sound hdraw hcf hT hs1 hI hQ
  | seq x y ihx ihy =>
    intro s s' ex w A bl a Q h hI hQ
    simp only [exec] at h
    refine wp_seq ?_
    split at h
    · rename_i s1 h1
      exact ihx h1 hI fun w' A' bl' a' hI' => ihy h hI' hQ
    · rename_i hne
      refine ihx h hI fun w' A' bl' a' hI' => ?_
      have := hQ w' A' bl' a' hI'
      cases ex with
      | nrm => exact absurd h (hne s')
      | exit i => exact this
      | ret => exact this
  | cond c x y ihx ihy =>
    intro s s' ex w A bl a Q h hI hQ
    simp only [exec] at h
    split at h
    case h_2 => simp at h
    rename_i t hc
    have hcv := (opd_rep hI.frm hc).bool_inv
    refine wp_cond hcv ?_
    cases t with
    | true => exact ihx (by simpa using h) hI hQ
    | false => exact ihy (by simpa using h) hI hQ
  | block id b ih =>
    intro s s' ex w A bl a Q h hI hQ
    simp only [exec] at h
    refine wp_block ?_
    split at h
    · rename_i i s1 h1
      refine ih h1 hI fun w' A' bl' a' hI' => ?_
      simp only [exOf, Exit.inBlock]
      split at h <;> simp only [Option.some.injEq, Prod.mk.injEq] at h <;> obtain ⟨rfl, rfl⟩ := h
      · rename_i he
        rw [if_pos he]; exact hQ w' A' bl' a' hI'
      · rename_i he
        rw [if_neg he]; exact hQ w' A' bl' a' hI'
    · rename_i hne
      refine ih h hI fun w' A' bl' a' hI' => ?_
      have := hQ w' A' bl' a' hI'
      cases ex with
      | nrm => exact this
      | exit i => exact absurd h (hne i s')
      | ret => exact this
  | loop b ih =>
    intro s s' ex w A bl a Q h hI hQ
    simp only [exec] at h
    refine wp_loop_rounds K ?_
    have key : ∀ (K' : Nat) {s s' : St} {ex : Ex} {w : World} {A : Nat → Prop} {bl : Nat → Option (Nat × Nat)} {a : Act} {Q : Exit → Act → World → Prop},
        iterN K' (fun s => match norm E g H0.length b s with | some s => exec (region E cf g n) (fun b f => iterN K fun s => match norm E g H0.length b s with | some s => f s | none => none) b s | none => none) s = some (ex, s') →
        Inv w0 A0 bl0 H0 n w A bl s.fr s.hp a → (∀ w' A' bl' a', Inv w0 A0 bl0 H0 n w' A' bl' s'.fr s'.hp a' → Q (exOf ex) a' w') → Code.rounds P b Q K' a w := by
      intro K'
      induction K' with
      | zero => intro s s' ex w A bl a Q h; simp [iterN] at h
      | succ K' ihk =>
        intro s s' ex w A bl a Q h hI hQ
        simp only [iterN] at h
        rw [rounds_succ]
        cases hnorm : norm E g H0.length b s with
        | none => simp [hnorm] at h
        | some s1 =>
          simp only [hnorm] at h
          obtain ⟨bl1, hI1⟩ := norm_sound hnorm hI
          split at h
          · rename_i s2 h2
            exact ih h2 hI1 fun w' A' bl' a' hI' => ihk h hI' hQ
          · rename_i hne
            refine ih h hI1 fun w' A' bl' a' hI' => ?_
            have := hQ w' A' bl' a' hI'
            cases ex with
            | nrm => exact absurd h (hne s')
            | exit i => exact this
            | ret => exact this
    exact key K h hI hQ
  | rangeFunc f ps x y ihx ihy => intro s s' ex w A bl a Q h; simp [exec] at h
  | exit id =>
    intro s s' ex w A bl a Q h hI hQ
    simp only [exec, Option.some.injEq, Prod.mk.injEq] at h
    obtain ⟨rfl, rfl⟩ := h
    exact wp_exit (hQ _ _ _ _ hI)
  | scope b ih =>
    intro s s' ex w A bl a Q h hI hQ
    simp only [exec] at h
    refine wp_scope_straight (ih h hI fun w' A' bl' a' hI' => ?_)
    have := hQ w' A' bl' a' hI'
    cases ex <;> exact this
  | goto l => intro s s' ex w A bl a Q h; simp [exec] at h
  | ret =>
    intro s s' ex w A bl a Q h hI hQ
    simp only [exec, Option.some.injEq, Prod.mk.injEq] at h
    obtain ⟨rfl, rfl⟩ := h
    exact wp_ret (hQ _ _ _ _ hI)
  | refuse why => intro s s' ex w A bl a Q h; simp [exec] at h

/-! ## functions -/
theorem frame0_get : ∀ {l : List V} {p t : Nat} {v : V}, get (frame0 p l) t = some v → ∃ j, t = p + j ∧ l[j]? = some v
  | [], p, t, v, h => by simp [frame0, get] at h
  | x :: r, p, t, v, h => by
    simp only [frame0, get] at h
    split at h
    · simp only [Option.some.injEq] at h
      exact ⟨0, by omega, by simp [h]⟩
    · obtain ⟨j, h1, h2⟩ := frame0_get h
      exact ⟨j + 1, by omega, by simpa using h2⟩

def resM (tmps : Array Value) : ResultVar → Sem Value
  | .tmp t => pure (tmps.getD t undef)
  | .cell a t => do loadVar t (← asAddr (tmps.getD a undef))

theorem resL_run {T : TypeId → Option Ty} (hT : ∀ t y, T t = some y → tyOf P t = some y) {s : St} {tmps : Array Value} (hH : RepH w A bl s.hp) (hF : RepF w A bl s.hp s.fr tmps) : ∀ {rs : List ResultVar} {vals : List V}, resL T s rs = some vals →
    ∃ us, (rs.mapM (resM tmps)).run P w = .ok us w ∧ RepL w A bl s.hp vals us
  | [], vals, h => by
    simp only [resL, Option.some.injEq] at h
    subst h
    exact ⟨[], rfl, rfl, fun j x u hj => by simp at hj⟩
  | .tmp t :: r, vals, h => by
    simp only [resL] at h
    split at h <;> simp only [Option.some.injEq, reduceCtorEq] at h
    rename_i v l hv hl
    subst h
    obtain ⟨us, h1, h2, h3⟩ := resL_run hT hH hF hl
    obtain ⟨u, g1, g2⟩ := hF.at_ t v hv
    refine ⟨u :: us, ?_, by simp [h2], fun j x u' hj hu => ?_⟩
    · simp only [List.mapM_cons, resM, Sem.run_bind, Sem.run_pure, Result.andThen_ok, h1]
      simp [Array.getD_eq_getD_getElem?, g1]
    · cases j with
      | zero => simp at hj hu; subst hj; subst hu; exact g2
      | succ j => simp at hj hu; exact h3 j x u' hj hu
  | .cell c t :: r, vals, h => by
    simp only [resL] at h
    split at h
    case h_2 => simp at h
    rename_i v y l hv hy hl
    split at h <;> simp only [Option.some.injEq, reduceCtorEq] at h
    rename_i x hx
    subst h
    obtain ⟨us, h1, h2, h3⟩ := resL_run hT hH hF hl
    obtain ⟨u, g1, g2⟩ := hF.at_ c v hv
    obtain ⟨q, q1, q2⟩ := loadV_run (P := P) hT hH hy hx g2
    obtain ⟨ad, rfl⟩ : ∃ ad, u = .pointer (some ad) := by
      unfold loadV at hx
      split at hx
      · obtain ⟨ad, h, _⟩ := g2.fp_inv; exact ⟨ad, h⟩
      · obtain ⟨ad, h, _⟩ := g2.ptr_inv; exact ⟨ad, h⟩
      · simp at hx
    refine ⟨q :: us, ?_, by simp [h2], fun j x u' hj hu => ?_⟩
    · have e : tmps.getD c undef = .pointer (some ad) := by simp [Array.getD_eq_getD_getElem?, g1]
      have q1' : (loadVar t ad).run P w = .ok q w := by
        unfold Instr.loadAt at q1
        simpa [Instr.sureAddr] using q1
      simp only [List.mapM_cons, resM, Sem.run_bind, e, asAddr, Sem.run_pure, Result.andThen_ok, q1', h1]
    · cases j with
      | zero => simp at hj hu; subst hj; subst hu; exact q2
      | succ j => simp at hj hu; exact h3 j x u' hj hu

theorem leave_sound {fz : Bool} {vals vals' : List V} {us : List Value} (hv : RepL w A bl H vals us) (hr : RepH w A bl H) (hl : Le w0 A0 bl0 H0 w A bl H) (he : Evo w0 A0 (Liv bl0 H0) w A (Liv bl H)) (h : leave fz H0.length vals H = some (vals', H')) :
    ∃ A' bl', RepL w A' bl' H' vals' us ∧ RepH w A' bl' H' ∧ Le w0 A0 bl0 H0 w A' bl' H' ∧ Evo w0 A0 (Liv bl0 H0) w A' (Liv bl' H') := by
  unfold leave at h
  dsimp only at h
  split at h
  · simp only [Option.some.injEq, Prod.mk.injEq] at h
    obtain ⟨rfl, rfl⟩ := h
    exact ⟨A, bl, hv, hr, hl, he⟩
  · generalize (fun i => fz && decide (H0.length ≤ i) && (if fz = true then idsL vals else []).contains i : Nat → Bool) = p at h
    split at h
    case h_2 => simp at h
    rename_i h1 ht
    split at h <;> simp only [Option.some.injEq, Prod.mk.injEq, reduceCtorEq] at h
    rename_i hd
    obtain ⟨rfl, rfl⟩ := h
    have r1 := frz_rep hr p
    exact ⟨_, _, repL_ren (sub_ren ht) (repL_frz hr hv), sub_rep r1 ht hd, sub_le (frz_le hl p) ht (fun i hi => gcK_pre hi), sub_evo (he.trans (frz_evo hr p)) ht⟩

theorem results_pack (fn : Func) (tmps : Array Value) {us : List Value} (h : (fn.results.toList.mapM (resM tmps)).run P w = .ok us w) : (results fn tmps).run P w = .ok (pack us) w := by
  have e : results fn tmps = (do let vs ← fn.results.mapM (resM tmps); pure (if h : vs.size = 1 then vs[0] else .tuple vs)) := by
    unfold results
    congr 1
  rw [e, Array.mapM_eq_mapM_toList]
  simp only [Sem.run_bind, Sem.run_map, h, Result.andThen_ok, Sem.run_pure]
  match us with
  | [] => rfl
  | [u] => rfl
  | _ :: _ :: _ => rfl

theorem runF_sound (hdraw : DrawOk P) {E : Env} {cf : CF} (hcf : CFok P cf) (hT : ∀ t y, E.T t = some y → tyOf P t = some y) {K : Nat} {g : FuncId} {fn : Func} (hfn : P.funcs[g]? = some fn) {args vals : List V} {H H' : Hp} (h : runF E cf (iterN K) g fn args H = some (vals, H')) : Sound P g args H vals H' := by
  intro w A bl us hH hargs
  unfold runF at h
  split at h
  case h_1 => simp at h
  rename_i code hcode
  dsimp only at h
  have hlen := hargs.1
  have hI : Inv w A bl H (args.length + (fn.ntmps - args.length)) w A bl (frame0 0 args) H { tmps := us.toArray ++ Array.replicate (fn.ntmps - us.toArray.size) undef, defers := [] } := by
    refine ⟨hH, ⟨fun t v ht => ?_⟩, by simp [hlen], rfl, Le.refl _ _ _ _, Evo.refl _ _ _⟩
    obtain ⟨j, rfl, hj⟩ := frame0_get ht
    have hlt := (List.getElem?_eq_some_iff.1 hj).1
    refine ⟨us[j]'(by omega), ?_, hargs.2 j v _ hj (by simp)⟩
    rw [Nat.zero_add, Array.getElem?_append_left (by simp; omega)]
    simp
  have fin : ∀ {ex : Ex} {s : St}, exec (region E cf g (args.length + (fn.ntmps - args.length))) (fun b f => iterN K fun s => match norm E g H.length b s with | some s => f s | none => none) code ⟨frame0 0 args, H⟩ = some (ex, s) → (ex = .nrm ∨ ex = .ret) →
      (match resW E g s fn.results.toList with | some vals => leave (E.frz g) H.length vals s.hp | none => none) = some (vals, H') →
      Calls P g us.toArray w fun e w' => ∃ A' bl' rs, e = .returned (pack rs) ∧ RepL w' A' bl' H' vals rs ∧ RepH w' A' bl' H' ∧ Le w A bl H w' A' bl' H' ∧ Evo w A (Liv bl H) w' A' (Liv bl' H') := by
    intro ex s hex hnr hres
    refine calls_of_wp hfn hcode (exec_sound hdraw hcf hT code hex hI fun w' A' bl' a' hI' => ?_)
    split at hres
    case h_2 => simp at hres
    rename_i vals0 hv0
    unfold resW at hv0
    split at hv0 <;> simp only [Option.some.injEq, reduceCtorEq] at hv0
    rename_i vals00 hv00
    obtain ⟨rs, r1, r2⟩ := resL_run (P := P) hT hI'.rep hI'.frm hv00
    have r2 := mapTL_rep (fun z x u => C.weak_rep (x := x) (u := u) z) (E.wk g) r2
    rw [hv0] at r2
    obtain ⟨A2, bl2, q1, q2, q3, q4⟩ := leave_sound r2 hI'.rep hI'.le hI'.evo hres
    have hpost : a'.defers = [] ∧ ∃ v, (results fn a'.tmps).run P w' = .ok v w' ∧ ∃ A' bl' rs, Ending.returned v = .returned (pack rs) ∧ RepL w' A' bl' H' vals rs ∧ RepH w' A' bl' H' ∧ Le w A bl H w' A' bl' H' ∧ Evo w A (Liv bl H) w' A' (Liv bl' H') :=
      ⟨hI'.defers, _, results_pack fn a'.tmps r1, A2, bl2, rs, rfl, q1, q2, q3, q4⟩
    rcases hnr with rfl | rfl <;> exact hpost
  split at h
  · rename_i s hs; exact fin hs (.inl rfl) h
  · rename_i s hs; exact fin hs (.inr rfl) h
  · simp at h

/-- What the rest of the program is: the functions that are told by something else than their text. -/
structure EnvOk (P : Program) (E : Env) : Prop where
  T : ∀ t y, E.T t = some y → tyOf P t = some y
  B : ∀ g fn, E.B g = some fn → P.funcs[g]? = some fn
  enter : ∀ g fn, E.B g = some fn → fn.body.isSome = true → (fn.name == "runtime.NumGoroutine") = false
  ext : ∀ g f args H vals H', E.ext g = some f → f args H = some (vals, H') → Enter P g ∧ Sound P g args H vals H'

theorem nilArg_rep {b : Bool} {args a1 a2 : List V} (h : nilArg b args = some (a1, a2)) {us : List Value} (hr : RepL w A bl H args us) : RepL w A bl H a1 us ∨ RepL w A bl H a2 us := by
  unfold nilArg at h
  split at h <;> simp only [Option.some.injEq, Prod.mk.injEq, reduceCtorEq] at h
  rename_i z t r
  obtain ⟨rfl, rfl⟩ := h
  obtain ⟨h1, h2⟩ := hr
  match us, h1 with
  | u :: us, h1 =>
    have h0 := h2 0 _ u rfl rfl
    have build : ∀ x, RepV w A bl H x u → RepL w A bl H (x :: r) (u :: us) := fun x hx => ⟨by simpa using h1, fun j y v hj hv => by
      cases j with
      | zero => simp at hj hv; subst hj; subst hv; exact hx
      | succ j => exact h2 (j + 1) y v hj hv⟩
    cases h0 with
    | c _ _ hc =>
      cases hc with
      | slnil => exact .inl (build _ (.c _ _ (.slnil _ _ _ (by simp))))
      | sl _ _ _ _ a cap vs g1 g2 g3 g4 g5 g6 g7 => exact .inr (build _ (.c _ _ (.sl _ _ _ _ a cap vs g1 (by simp) g3 g4 g5 g6 g7)))

theorem callN_sound (hdraw : DrawOk P) {E : Env} (hE : EnvOk P E) : ∀ k, CFok P (callN E k)
  | 0 => fun g args H vals H' h => by simp [callN] at h
  | k + 1 => fun g args H vals H' h => by
    simp only [callN] at h
    split at h
    · rename_i f hf; exact hE.ext g f args H vals H' hf h
    · split at h
      case h_2 => simp at h
      rename_i fn hfn
      have ent : ∀ {args : List V} {vals : List V} {H' : Hp}, runF E (callN E k) (iterN k) g fn args H = some (vals, H') → Enter P g := by
        intro args vals H' h as w
        have hb : fn.body.isSome = true := by
          unfold runF at h
          split at h
          · simp at h
          · simp [*]
        have hn := hE.enter g fn hfn hb
        have hnone : fn.body.isNone = false := by simpa using hb
        simp only [callFunc, Sem.run_bind, run_program, Result.andThen_ok, hE.B g fn hfn]
        rw [if_neg (by simpa using hn), if_neg (by simp [hnone])]
        rfl
      split at h
      · rename_i a1 a2 hna
        unfold both at h
        split at h
        case isFalse => simp at h
        rename_i hs
        have h' := h
        rw [sameR_eq hs] at h'
        refine ⟨ent h, fun w A bl us hH hargs => ?_⟩
        rcases nilArg_rep hna hargs with h1 | h1
        · exact runF_sound hdraw (callN_sound hdraw hE k) hE.T (hE.B g fn hfn) h w A bl us hH h1
        · exact runF_sound hdraw (callN_sound hdraw hE k) hE.T (hE.B g fn hfn) h' w A bl us hH h1
      · exact ⟨ent h, runF_sound hdraw (callN_sound hdraw hE k) hE.T (hE.B g fn hfn) h⟩
end
end Go.Ev
