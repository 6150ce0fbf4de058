/-
  EV, part S: a loop over an iterator: what the abstract interpreter says, the machine does.
-/
import Derived.Test.YtbilmkcdhodenaaDoorEvR
set_option linter.all false
set_option linter.unusedSimpArgs false
set_option linter.unusedVariables false
namespace Go.Ev
section
variable {P : Program} {K : World → Prop} {n : Nat} {E : Env} {cf : CF} {g : FuncId} {m : Nat} {rd : Nat → St → Option (Ex × St)} {asn bd : Code} {ps : Array Tmp} {w : World}

/-- Where a loop over an iterator stands, to the iterator: w0 A0 bl0 H0: where its function began. -/
structure YY (w0 : World) (A0 : Nat → Prop) (bl0 : Bl) (H0 : Hp) (n : Nat) (nm : St → Option St) (rd : Nat → St → Option (Ex × St)) (rec : Loop) (l : Nat) (ex : Ex) (sE : St) (rest : List (List V)) (t : Bool) (b : Nat) (A X : Nat → Prop) (w : World) : Prop where
  at_ : b = l
  is : ∃ (bl : Bl) (s : St) (r0 : Loop), w.heap[l]? = some (.loop r0) ∧ ¬ A l ∧ ¬ Liv bl s.hp l ∧ RepH w A bl s.hp ∧ RepF w A bl s.hp s.fr rec.tmps ∧ Le w0 A0 bl0 H0 w A bl s.hp ∧ (∀ c, X c ↔ Liv bl s.hp c) ∧
    ((∃ es, roundsE n rec.params.toList nm rd es s = some (ex, sE, rest, t) ∧ r0 = rec) ∨ (rest = [] ∧ t = true ∧ s = sE ∧ ex ≠ .nrm ∧ r0 = { rec with state := .done, pending := jumpOf ex }))

theorem YY.stable {w0 : World} {A0 : Nat → Prop} {bl0 : Bl} {H0 : Hp} {nm : St → Option St} {rec : Loop} {l : Nat} {ex : Ex} {sE : St} {r : List (List V)} {s : Bool} {b : Nat} {A X : Nat → Prop} {w : World} {A' : Nat → Prop} {w' : World}
    (h : YY w0 A0 bl0 H0 n nm rd rec l ex sE r s b A X w) (hA : ∀ c, A c → A' c) (alt : ∀ c, A' c → c < w'.heap.size) (dis : ∀ c, X c ∨ c = b → ¬ A' c) (keep : ∀ c, c = b ∨ X c ∨ A c → w'.heap[c]? = w.heap[c]?)
    (size : w.heap.size ≤ w'.heap.size) (os : w'.os = w.os) (tape : w'.tape = w.tape) (output : w'.output = w.output) : YY w0 A0 bl0 H0 n nm rd rec l ex sE r s b A' X w' := by
  obtain ⟨rfl, bl, st, r0, h1, h2, h3, h4, h5, h6, h7, h8⟩ := h
  obtain ⟨g1, g2⟩ := h4.still hA alt (fun c hc => dis c (.inl ((h7 c).2 hc))) (fun c hc => keep c (hc.elim (fun h => .inr (.inl ((h7 c).2 h))) (fun h => .inr (.inr h)))) size os tape output
  exact ⟨rfl, bl, st, r0, (keep b (.inl rfl)).trans h1, dis b (.inr rfl), h3, g1, h5.mono g2, h6.trans g2, h7, h8⟩

theorem Le.trunc {w w' : World} {A A' : Nat → Prop} {bl bl' : Bl} {H H' : Hp} {k : Nat} (h : Le w A bl H w' A' bl' H') (hk : H.length ≤ k) : Le w A bl H w' A' bl' (H'.take k) := by
  have at_ : ∀ {i o}, (H'.take k)[i]? = some o → H'[i]? = some o := fun {i o} h => by
    rw [List.getElem?_take] at h
    split at h
    · exact h
    · simp at h
  exact ⟨h.C, h.A, by rw [List.length_take]; exact Nat.le_min.2 ⟨hk, h.len⟩, fun i z e xs hi hh => h.mem i z e xs hi (at_ hh), fun i cs hi hh => h.box i cs hi (at_ hh), fun i r s hi hh => h.yo i r s hi (at_ hh), h.cx, fun i z e xs xs' b d n h0 hh => h.row i z e xs xs' b d n h0 (at_ hh)⟩
theorem Le.taken {w : World} {A : Nat → Prop} {bl : Bl} {H : Hp} (k : Nat) : Le w A bl (H.take k) w A bl H := by
  have at_ : ∀ {i o}, i < (H.take k).length → H[i]? = some o → (H.take k)[i]? = some o := fun {i o} hi h => by
    rw [List.getElem?_take, if_pos (by simp at hi; omega)]; exact h
  have at2 : ∀ {i o}, (H.take k)[i]? = some o → H[i]? = some o := fun {i o} h => by
    rw [List.getElem?_take] at h
    split at h
    · exact h
    · simp at h
  exact ⟨fun _ _ => rfl, fun _ h => h, by simp; omega, fun i z e xs hi h => ⟨_, _, at_ hi h, Nat.le_refl _, fun _ => ⟨rfl, rfl⟩⟩, fun i cs hi h => ⟨_, at_ hi h, rfl⟩, fun i r s hi h => ⟨_, _, at_ hi h, rfl⟩, rfl, fun _ _ _ _ _ _ _ _ _ _ _ h => h⟩

theorem yoAns_nrm {nm : St → Option St} {ps : List Nat} {es : List (List V)} {s sE : St} {ex : Ex} {e : List V} {r : List (List V)} {t : Bool} (h : roundsE n ps nm rd es s = some (ex, sE, r, t)) : yoAns (e :: r) t = true := by
  cases r with
  | nil => rw [(roundsE_nil h).2.2]; rfl
  | cons => simp [yoAns]

/-- The loop's body is a promise. -/
theorem YY.yield {w0 : World} {A0 : Nat → Prop} {bl0 : Bl} {H0 : Hp} {rec : Loop} {l : Nat} {ex : Ex} {sE : St} {e : List V} {r : List (List V)} {t : Bool} {b : Nat} {A X : Nat → Prop} {w : World}
    (hrd : ∀ m s ex s', rd m s = some (ex, s') → ∃ s1, CSound P K n rec.assign m s .nrm s1 ∧ CSound P K n rec.body m s1 ex s') (hcx : CtxOk P K bl0.cx) (hsz : rec.tmps.size = n) (hst : rec.state = .ready) (hpe : rec.pending = none)
    (hY : YY w0 A0 bl0 H0 n (norm E g H0.length bd) rd rec l ex sE (e :: r) t b A X w) (bl' : Bl) (H' : Hp) (us : List Value) (hus : RepL w A bl' H' e us) :
    ∃ f tmps asn bd', (Instr.yield b us.toArray).run P w = .ok (.round b f tmps asn bd') w ∧ RoundIn Fence.wide 0 P b f tmps asn bd' w fun en w' => ∃ A' X', en = .returned (.bool (yoAns (e :: r) t)) ∧ YY w0 A0 bl0 H0 n (norm E g H0.length bd) rd rec l ex sE r t b A' X' w' ∧ YEvo w A X b w' A' X' := by
  obtain ⟨rfl, bl, s, r0, hrec, hlA, hlL, hR, hF, hL, hX, hcase⟩ := hY
  rcases hcase with ⟨es, hes, rfl⟩ | ⟨h, _⟩
  case inr => cases h
  obtain ⟨hcl, fr, hput, ex1, s2, hrd1, halt⟩ := roundsE_cons hes
  have hus' : RepL w A bl s.hp e us := closed_rep hcl hus
  obtain ⟨hF1, hsz1, hlen⟩ := putL_rep hput hus' hF hsz
  have hzip : (r0.params.zip us.toArray).foldl (fun tmps (t, a) => tmps.setIfInBounds t a) r0.tmps = (r0.params.toList.zip us).foldl (fun tmps (t, a) => tmps.setIfInBounds t a) r0.tmps := by
    rw [← Array.foldl_toList, Array.toList_zip]
  have hbl : b < w.heap.size := (Array.getElem?_eq_some_iff.1 hrec).1
  refine ⟨r0.fn, _, r0.assign, r0.body, run_yield hrec (by simpa using hlen), ?_⟩
  obtain ⟨s1, ha, hb⟩ := hrd _ _ _ _ hrd1
  refine roundIn_of_wpIn trivial ?_
  have hcx1 : CtxOk P K bl.cx := by rw [hL.cx]; exact hcx
  have hI1 : Inv w A bl s.hp ⟨Liv bl s.hp, some (b, r0)⟩ n w A bl fr s.hp { tmps := (r0.params.zip us.toArray).foldl (fun tmps (t, a) => tmps.setIfInBounds t a) r0.tmps, defers := [] } :=
    ⟨hR, by rw [hzip]; exact hF1, by rw [hzip]; exact hsz1, ⟨by simp, by simp⟩, fun x hx => by simp only [Option.some.injEq] at hx; subst hx; exact ⟨rfl, hrec, hlA, hlL⟩, Le.refl _ _ _ _, Evo.refl _ _ _⟩
  refine ha w A bl s.hp ⟨Liv bl s.hp, some (b, r0)⟩ w A bl _ _ rfl hcx1 hI1 fun w2 A2 bl2 a2 hI2 => ?_
  obtain ⟨hd2, hrec2, hlA2, hlL2⟩ := hI2.rnd _ rfl
  simp only at hrec2 hlA2 hlL2
  refine ⟨_, run_beginRound hrec2 hst, ?_⟩
  obtain ⟨hR3, hl3⟩ := hI2.rep.putObj hlA2 hlL2 (.loop { r0 with state := .busy })
  have hb2 : b < w2.heap.size := (Array.getElem?_eq_some_iff.1 hrec2).1
  have hrec3 := World.putObj_heap_same (w := w2) (o := .loop { r0 with state := .busy }) hb2
  generalize hw3 : w2.putObj b (.loop { r0 with state := .busy }) = w3 at hR3 hl3 hrec3 ⊢
  have hlen3 : s.hp.length ≤ s1.hp.length := hI2.le.len
  have hle3 : Le w A bl s.hp w3 A2 bl2 (s1.hp.take s.hp.length) := (hI2.le.trans hl3).trunc (Nat.le_refl _)
  have hcx3 : CtxOk P K bl2.cx := by rw [hI2.le.cx]; exact hcx1
  have hI3 : Inv w3 A2 bl2 (s1.hp.take s.hp.length) ⟨Liv bl2 s1.hp, some (b, { r0 with state := .busy })⟩ n w3 A2 bl2 s1.fr s1.hp a2 := by
    exact ⟨hR3, hI2.frm.mono hl3, hI2.size, (by rw [hd2]; exact ⟨fun d hd => (by simp at hd), by simp⟩), fun x hx => by simp only [Option.some.injEq] at hx; subst hx; exact ⟨hd2, hrec3, hlA2, hlL2⟩, Le.taken _, Evo.refl _ _ _⟩
  refine hb w3 A2 bl2 (s1.hp.take s.hp.length) ⟨Liv bl2 s1.hp, some (b, { r0 with state := .busy })⟩ w3 A2 bl2 a2 _ (by simp; omega) hcx3 hI3 fun w4 A4 bl4 a4 hI4 => ?_
  obtain ⟨_, hrec4, hlA4, hlL4⟩ := hI4.rnd _ rfl
  simp only at hrec4 hlA4 hlL4
  refine roundPost_of (run_endRound _ hrec4) ?_
  have hb4 : b < w4.heap.size := (Array.getElem?_eq_some_iff.1 hrec4).1
  -- the round as a whole
  have hLe4 : Le w A bl s.hp w4 A4 bl4 s2.hp := hle3.trans hI4.le
  generalize hr5 : ({ { r0 with state := LoopState.busy } with state := if (jumpOf ex1).isNone = true then LoopState.ready else LoopState.done, pending := jumpOf ex1 } : Loop) = r5
  obtain ⟨hR5, hl5⟩ := hI4.rep.putObj hlA4 hlL4 (.loop r5)
  have hrec5 := World.putObj_heap_same (w := w4) (o := .loop r5) hb4
  have hle5 := hLe4.trans hl5
  have hsz3 : w3.heap.size = w2.heap.size := by subst hw3; simp
  have hk23 : ∀ c, c ≠ b → w3.heap[c]? = w2.heap[c]? := fun c hc => by subst hw3; exact World.putObj_heap_other hc
  have hk5 : ∀ c, c ≠ b → (w4.putObj b (.loop r5)).heap[c]? = w4.heap[c]? := fun c hc => World.putObj_heap_other hc
  have hos : w3.os = w2.os ∧ w3.tape = w2.tape ∧ w3.output = w2.output := by subst hw3; exact ⟨rfl, rfl, rfl⟩
  have hlive2 : ∀ c, Liv bl2 s1.hp c → Liv bl s.hp c ∨ w.heap.size ≤ c := hI2.evo.live
  have hlive4 : ∀ c, Liv bl4 s2.hp c → Liv bl s.hp c ∨ w.heap.size ≤ c := fun c hc => (hI4.evo.live c hc).elim (hlive2 c) fun h => by have := hI2.evo.size; exact .inr (by omega)
  have hfrom4 : ∀ c, A4 c → A c ∨ Liv bl s.hp c ∨ w.heap.size ≤ c := fun c hc => by
    rcases hI4.evo.from_ c hc with h | h | h
    · exact hI2.evo.from_ c h
    · exact .inr (hlive2 c h)
    · have := hI2.evo.size; exact .inr (.inr (by omega))
  have hkeep4 : ∀ c, c < w.heap.size → ¬ Liv bl s.hp c → c ≠ b → w4.heap[c]? = w.heap[c]? := fun c hc hL hne => by
    have k1 := hI2.evo.keep c hc hL
    have k2 : ¬ Liv bl2 s1.hp c := fun h => (hlive2 c h).elim hL fun h => by omega
    exact (hI4.evo.keep c (by have := hI2.evo.size; omega) k2).trans ((hk23 c hne).trans k1)
  have evo : ∀ X' : Nat → Prop, (∀ c, X' c → Liv bl4 s2.hp c) → YEvo w A X b (w4.putObj b (.loop r5)) A4 X' := fun X' hX' =>
    ⟨hI4.evo.os.trans (hos.1.trans hI2.evo.os), hI4.evo.tape.trans (hos.2.1.trans hI2.evo.tape), hI4.evo.output.trans (hos.2.2.trans hI2.evo.output),
     by have := hI2.evo.size; have := hI4.evo.size; simp; omega, fun c hc hL hne => (hk5 c hne).trans (hkeep4 c hc (fun h => hL ((hX c).2 h)) hne), hLe4.A,
     fun c hc => (hfrom4 c hc).imp id fun h => h.imp (hX c).2 id, fun c hc => (hlive4 c (hX' c hc)).imp (hX c).2 id, hR5.alt, fun c hc => (liv_lt hR5 (hX' c hc)).1,
     fun c hc => hc.elim (fun h => (liv_lt hR5 (hX' c h)).2) (fun h => h ▸ hlA4), fun h => hlL4 (hX' b h)⟩
  rcases halt with ⟨rfl, s3, es', hnm, hes'⟩ | ⟨hne, rfl, rfl, rfl, rfl⟩
  · obtain ⟨bl6, g1, g2, g3, g4⟩ := norm_parts (tmps := r0.tmps) hnm hR5 (hF.mono hle5) (hL.trans hle5)
    refine ⟨A4, Liv bl6 s3.hp, by rw [yoAns_nrm hes']; rfl, ⟨rfl, bl6, s3, r0, ?_, hlA4, fun h => hlL4 (g4 _ h), g1, g2, g3, fun c => Iff.rfl, .inl ⟨es', hes', rfl⟩⟩, evo _ g4⟩
    rw [hrec5, ← hr5]
    cases r0
    simp only at hst hpe
    subst hst; subst hpe
    rfl
  · refine ⟨A4, Liv bl4 s2.hp, ?_, ⟨rfl, bl4, ⟨s.fr, s2.hp⟩, r5, hrec5, hlA4, hlL4, hR5, hF.mono hle5, hL.trans hle5, fun c => Iff.rfl, .inr ⟨rfl, rfl, rfl, hne, ?_⟩⟩, evo _ fun _ h => h⟩
    · cases ex <;> first | exact absurd rfl hne | rfl
    · rw [← hr5]
      cases ex <;> first | exact absurd rfl hne | rfl

/-- How the statement is entered. -/
theorem enter_loop {ro : Option Nat} (hro : ∀ l0, ro = some l0 → ∃ r0, w.heap[l0]? = some (.loop r0)) (fn : FuncId) (tmps : Array Value) (ps : Array Tmp) (asn bd : Code) :
    ∃ l mark w1 rec, (Instr.enterLoop fn tmps ps asn bd ro).run P w = .ok (l, mark) w1 ∧ Grow w w1 ∧ w.heap.size ≤ l ∧ l < w1.heap.size ∧ w1.heap[l]? = some (.loop rec) ∧ rec.state = .ready ∧ rec.pending = none ∧ rec.tmps = tmps ∧ rec.params = ps ∧ rec.assign = asn ∧ rec.body = bd ∧
      (ro.isSome = true → mark = []) ∧ mark.length ≤ 1 ∧ ∀ d ∈ mark, ∃ D, d.target = .collected D ∧ w.heap.size ≤ D ∧ D < w1.heap.size ∧ D ≠ l ∧ w1.heap[D]? = some (.deferred (some [])) := by
  cases ro with
  | none =>
    refine ⟨_, _, _, { state := .ready, pending := none, fn, tmps, params := ps, assign := asn, body := bd, defers := w.heap.size }, run_enterLoop_outer fn tmps ps asn bd, (Grow.alloc w _).trans (Grow.alloc _ _), by omega, by simp, ?_, rfl, rfl, rfl, rfl, rfl, rfl, by simp, by simp, fun d hd => ?_⟩
    · have := World.alloc_heap_new (w.alloc (.deferred (some []))) (.loop { state := .ready, pending := none, fn, tmps, params := ps, assign := asn, body := bd, defers := w.heap.size })
      simpa using this
    · simp only [List.mem_singleton] at hd
      subst hd
      refine ⟨w.heap.size, rfl, Nat.le_refl _, by simp; omega, by omega, ?_⟩
      rw [(Grow.alloc (w.alloc (.deferred (some []))) _).keep _ (by simp)]
      exact World.alloc_heap_new w _
  | some l0 =>
    obtain ⟨r0, h0⟩ := hro l0 rfl
    exact ⟨_, _, _, { state := .ready, pending := none, fn, tmps, params := ps, assign := asn, body := bd, defers := r0.defers }, run_enterLoop_inner h0 fn tmps ps asn bd, Grow.alloc w _, Nat.le_refl _, by simp, World.alloc_heap_new w _, rfl, rfl, rfl, rfl, rfl, rfl, fun _ => rfl, by simp, fun d hd => by simp at hd⟩

theorem rangeF_sound {f : Operand} {s s' : St} {ex : Ex} (hcf : CFok P K cf) (hrd : ∀ m s ex s', rd m s = some (ex, s') → ∃ s1, CSound P K n asn m s .nrm s1 ∧ CSound P K n bd m s1 ex s')
    (h : rangeF E cf g n m f ps.toList bd rd s = some (ex, s')) : CSound P K n (.rangeFunc f ps asn bd) m s ex s' := by
  intro w0 A0 bl0 H0 z w A bl a Q hm hcx hI0 hQ
  subst hm
  unfold rangeF at h
  split at h
  case h_2 => simp at h
  rename_i s1 hnorm
  obtain ⟨bl1, hI⟩ := norm_sound hnorm hI0
  unfold rangeG at h
  split at h
  case h_2 => simp at h
  rename_i gi caps hopd
  obtain ⟨vs, hfv, hcl, hcr⟩ := (opd_rep hI.frm hopd).fn_inv
  split at h
  case h_2 => simp at h
  rename_i args h0 ids hiter
  unfold iterOf at hiter
  dsimp only at hiter
  generalize reach s1.hp (2 * s1.hp.length + 40) (idsL caps) [] = ids' at hiter
  split at hiter
  case h_2 => simp at hiter
  rename_i h0' ht
  split at hiter <;> simp only [Option.some.injEq, Prod.mk.injEq, reduceCtorEq] at hiter
  rename_i hd
  obtain ⟨hargs0, rfl, rfl⟩ := hiter
  obtain ⟨ht, hn0⟩ := takeC_some ht
  split at h
  case h_2 => simp at h
  rename_i es hseq
  split at h
  case h_2 => simp at h
  rename_i ex1 s2 u t hrounds
  split at h
  case h_2 => simp at h
  rename_i vals h1 hcall
  split at h <;> simp only [Option.some.injEq, Prod.mk.injEq, reduceCtorEq] at h
  rename_i hspent
  obtain ⟨rfl, rfl⟩ := h
  obtain ⟨hent, hsound⟩ := hcf _ _ _ _ _ hcall
  have hbc : bl1.cx = bl0.cx := hI.le.cx
  refine wpIn_rangeFunc fun fn _ => ?_
  obtain ⟨l, mark, w1, rec, he, hg, hlw, hl1, hrec, hst, hpe, htm, hps, has, hbd, hmk0, hmk1, hmk⟩ := enter_loop (P := P) (w := w) (ro := z.F.round) (fun l0 hl0 => by
    unfold Rnd.F at hl0
    simp only [Option.map_eq_some_iff] at hl0
    obtain ⟨x, hx, rfl⟩ := hl0
    exact ⟨_, (hI.rnd x hx).2.1⟩) fn a.tmps ps asn bd
  have hres : (resolve a.eval (rangeCall f l) 0).run P w1 = .ok { target := .fn (.func gi) vs, args := #[.func (.yield l) #[] #[]] } w1 := by
    simp only [resolve, rangeCall, hfv, Deferred.ofValue, Sem.run_pure]
    simp [Act.eval]
  refine ⟨l, mark, w1, _, w1, gi, _, w1, he, hres, fun _ _ => trivial, hent _ w1, fun h => by simp [Rnd.F, Fence.wide] at h, ?_⟩
  -- what the iterator is handed
  obtain ⟨hR1, hl01⟩ := hI.rep.still (w' := w1) (fun _ h => h) (fun c hc => Nat.lt_of_lt_of_le (hI.rep.alt c hc) hg.size) (fun c hc => (liv_lt hI.rep hc).2) (fun c hc => hg.keep c (hc.elim (fun h => (liv_lt hI.rep h).1) (hI.rep.alt c))) hg.size hg.os hg.tape hg.output
  have hS := sub_rep hR1 ht hd
  obtain ⟨t1, t2⟩ := take_at ht
  obtain ⟨hRG, hlG, halG⟩ := goneAt_rep (ids := ids') hR1
  have hLG : ∀ c, Liv bl1 (goneAt ids' s1.hp) c → Liv bl1 s1.hp c := fun c hc => hc.elim (fun ⟨j, d, h1, h2⟩ => .inl ⟨j, d, (halG j h1).1, h2⟩) .inr
  have hnm : norm E g H0.length bd = norm E g H0.length bd := rfl
  let cx : Ctx := { K := bl1.cx.K, Y := fun r s b A X w => YY w0 A0 bl0 H0 n (norm E g H0.length bd) rd rec l ex1 s2 r s b A X w, stable := fun h => YY.stable h }
  let blS : Bl := { subBl bl1 ids' with X := Liv bl1 (goneAt ids' s1.hp), cx := cx }
  let blI : Bl := { loc := fun k => if k = ids'.length then some (l, 0) else subBl bl1 ids' k, X := Liv bl1 (goneAt ids' s1.hp), cx := cx }
  have hI1 : ∀ k, k < ids'.length → blI k = blS k := fun k hk => if_neg (Nat.ne_of_lt hk)
  have hIl : blI ids'.length = some (l, 0) := if_pos rfl
  have at1 : ∀ {k o}, k < ids'.length → (h0' ++ [O.yo u t])[k]? = some o → h0'[k]? = some o := fun {k o} hk h => by rwa [List.getElem?_append_left (by omega)] at h
  have at2 : (h0' ++ [O.yo u t])[ids'.length]? = some (.yo u t) := by rw [← t1]; simp
  have kinds : ∀ {k o}, (h0' ++ [O.yo u t])[k]? = some o → (k < ids'.length ∧ h0'[k]? = some o) ∨ (k = ids'.length ∧ o = .yo u t) := fun {k o} h => by
    have := (List.getElem?_eq_some_iff.1 h).1
    simp at this
    rcases Nat.lt_or_ge k ids'.length with hk | hk
    · exact .inl ⟨hk, at1 hk h⟩
    · have : k = ids'.length := by omega
      subst this
      rw [at2] at h
      simp only [Option.some.injEq] at h
      exact .inr ⟨rfl, h.symm⟩
  have hleS : Le w1 A blS h0' w1 A blI (h0' ++ [O.yo u t]) :=
    ⟨fun _ _ => rfl, fun _ h => h, by simp, fun i z e xs hi h => ⟨e, xs, at1 (by omega) h, Nat.le_refl _, fun _ => ⟨rfl, hI1 i (by omega)⟩⟩, fun i cs hi h => ⟨cs, at1 (by omega) h, hI1 i (by omega)⟩, fun i r s hi h => ⟨r, s, at1 (by omega) h, hI1 i (by omega)⟩, rfl, fun _ _ _ _ _ _ _ _ _ _ _ h => h⟩
  have hsrc : ∀ {k b d}, alive (h0' ++ [O.yo u t]) k → blI k = some (b, d) → (k < ids'.length ∧ alive h0' k ∧ subBl bl1 ids' k = some (b, d)) ∨ (k = ids'.length ∧ b = l) := fun {k b d} ⟨o, h1, h2⟩ hb => by
    rcases kinds h1 with ⟨hk, h⟩ | ⟨hk, h⟩
    · rw [hI1 k hk] at hb; exact .inl ⟨hk, ⟨o, h, h2⟩, hb⟩
    · subst hk; rw [hIl] at hb; simp only [Option.some.injEq, Prod.mk.injEq] at hb; exact .inr ⟨rfl, hb.1.symm⟩
  have hown : ∀ {k b d}, alive h0' k → subBl bl1 ids' k = some (b, d) → b < w.heap.size ∧ ¬ A b ∧ Liv bl1 s1.hp b ∧ ¬ Liv bl1 (goneAt ids' s1.hp) b := fun {k b d} ha hb => by
    obtain ⟨i, k1, k2⟩ := sub_alive ht ha
    simp only [subBl, k1] at hb
    obtain ⟨q1, q2⟩ := hI.rep.lt i b d k2 hb
    refine ⟨q1, q2, .inl ⟨i, d, k2, hb⟩, fun h => ?_⟩
    rcases h with ⟨j, d', j1, j2⟩ | h
    · exact hI.rep.inj i j b d d' (fun e => (halG j j1).2 (e ▸ List.mem_of_getElem? k1)) k2 (halG j j1).1 hb j2
    · exact hI.rep.xinj i b d k2 hb h
  have hlA : ¬ A l := fun h => by have := hI.rep.alt l h; omega
  have hlL : ¬ Liv bl1 s1.hp l := fun h => by have := (liv_lt hI.rep h).1; omega
  have hRI : RepH w1 A blI (h0' ++ [O.yo u t]) := by
    refine ⟨fun k o hk => ?_, fun k k' b d d' hne ha ha' hb hb' => ?_, fun k b d ha hb => ?_, hR1.alt, fun b hb => liv_lt hR1 (hLG b hb), fun k b d ha hb hX => ?_, hR1.base⟩
    · rcases kinds hk with ⟨hlt, hk'⟩ | ⟨rfl, rfl⟩
      · have hny : ∀ r s, o ≠ .yo r s := fun r s e => noYo_at hn0 k r s (e ▸ hk')
        exact ((hS.obj k o hk').cx (X := Liv bl1 (goneAt ids' s1.hp)) (cx := cx) hny).mono2 hleS (hI1 k hlt) (fun _ _ _ => rfl) hny
      · exact ⟨l, hIl, rfl, bl1, ⟨s1.fr, goneAt ids' s1.hp⟩, rec, hrec, hlA, fun h => hlL (hLG _ h), hRG, by rw [htm]; exact hI.frm.mono (hl01.trans hlG), (hI.le.trans hl01).trans hlG, fun c => Iff.rfl, .inl ⟨es, by rw [hps]; exact hrounds, rfl⟩⟩
    · rcases hsrc ha hb with ⟨h1, h2, h3⟩ | ⟨h1, h2⟩ <;> rcases hsrc ha' hb' with ⟨g1, g2, g3⟩ | ⟨g1, g2⟩
      · exact hS.inj k k' b d d' hne h2 g2 h3 g3
      · have := (hown h2 h3).1; omega
      · have := (hown g2 g3).1; omega
      · omega
    · rcases hsrc ha hb with ⟨h1, h2, h3⟩ | ⟨h1, h2⟩
      · exact ⟨Nat.lt_of_lt_of_le (hown h2 h3).1 hg.size, (hown h2 h3).2.1⟩
      · subst h2; exact ⟨hl1, hlA⟩
    · rcases hsrc ha hb with ⟨h1, h2, h3⟩ | ⟨h1, h2⟩
      · exact (hown h2 h3).2.2.2 hX
      · subst h2; exact hlL (hLG _ hX)
  have hLI : ∀ c, Liv blI (h0' ++ [O.yo u t]) c → Liv bl1 s1.hp c ∨ c = l := fun c hc => by
    rcases hc with ⟨k, d, h1, h2⟩ | h
    · rcases hsrc h1 h2 with ⟨q1, q2, q3⟩ | ⟨q1, q2⟩
      · exact .inl (hown q2 q3).2.2.1
      · exact .inr q2
    · exact .inl (hLG _ h)
  have hcxI : CtxOk P K blI.cx := by
    refine ⟨fun w hw => hcx.base w (by rw [← hbc]; exact hw), fun {e r s b A X w} hY bl' H' us hus => ?_⟩
    exact YY.yield (by rw [has, hbd]; exact hrd) hcx (by rw [htm]; exact hI.size) hst hpe hY bl' H' us hus
  have hargsI : RepL w1 A blI (h0' ++ [O.yo u t]) args (Value.func (.yield l) #[] #[] :: vs.toList) := by
    rw [← hargs0]
    refine mapTL_rep (fun z x u => C.fix_rep (x := x) (u := u) z) (E.fx gi) ?_
    have hc : RepL w1 A bl1 s1.hp caps vs.toList := ⟨by simpa using hcl, fun j x u hj hu => (hcr j x u hj (by simpa using hu)).mono hl01⟩
    have hc2 := repL_ren (sub_ren (bl := bl1) ht) hc
    refine ⟨by simp [hc2.1], fun j x v hj hv => ?_⟩
    cases j with
    | zero =>
      simp only [List.getElem?_cons_zero, Option.some.injEq] at hj hv
      subst hj; subst hv
      exact .yl _ _ (by simp [t1]) fun _ _ _ => hIl
    | succ j =>
      simp only [List.getElem?_cons_succ] at hj hv
      exact ((hc2.2 j x v hj hv).cx (X := Liv bl1 (goneAt ids' s1.hp)) (cx := cx)).mono hleS
  -- the iterator's run
  have hrun := hsound w1 A blI _ hcxI hRI hargsI
  have e2 : (#[Value.func (.yield l) #[] #[]] ++ vs : Array Value) = (Value.func (.yield l) #[] #[] :: vs.toList).toArray := by simp
  rw [e2]
  refine (callsIn_wide (n := 0 - 1)).2 (hrun.mono ?_)
  rintro e w' ⟨A', blF, rs, rfl, _, hRF, hleF, hevF⟩
  unfold spent at hspent
  split at hspent
  case h_2 => simp at hspent
  rename_i r st hyo
  have hr0 : r = [] := by simpa using hspent
  subst hr0
  obtain ⟨b, hbF, hYF⟩ := hRF.obj _ _ hyo
  rw [hleF.cx] at hYF
  obtain ⟨rfl, bl2, s2', r0, hrec2, hlA2, hlL2, hR2, hF2, hL2, hX2, hcase⟩ := (hYF : YY w0 A0 bl0 H0 n (norm E g H0.length bd) rd rec l ex1 s2 [] st b A' blF.X w')
  obtain ⟨rfl, hpend, hbusy⟩ : s2' = s2 ∧ r0.pending = jumpOf ex1 ∧ r0.state ≠ .busy := by
    rcases hcase with ⟨es', hes', rfl⟩ | ⟨_, _, rfl, _, rfl⟩
    · obtain ⟨rfl, rfl, _⟩ := roundsE_nil hes'
      exact ⟨rfl, hpe, by rw [hst]; simp⟩
    · exact ⟨rfl, rfl, by simp⟩
  refine ⟨_, _, run_endLoop hrec2 hbusy, ?_⟩
  obtain ⟨hR4, hl4⟩ := hR2.putObj hlA2 hlL2 (.loop { r0 with state := .exhausted })
  generalize hw4 : w'.putObj b (.loop { r0 with state := .exhausted }) = w4 at hR4 hl4 ⊢
  have hk4 : ∀ c, c ≠ b → w4.heap[c]? = w'.heap[c]? := fun c hc => by subst hw4; exact World.putObj_heap_other hc
  have hsz4 : w4.heap.size = w'.heap.size := by subst hw4; simp
  have hos : w4.os = w'.os ∧ w4.tape = w'.tape ∧ w4.output = w'.output := by subst hw4; exact ⟨rfl, rfl, rfl⟩
  have hev : Evo w A (Liv bl1 s1.hp) w4 A' (Liv bl2 s2'.hp) := by
    refine ⟨hos.1.trans (hevF.os.trans hg.os), hos.2.1.trans (hevF.tape.trans hg.tape), hos.2.2.trans (hevF.output.trans hg.output), by have := hg.size; have := hevF.size; omega, fun c hc hL => ?_, fun c hc => ?_, fun c hc => ?_⟩
    · exact (hk4 c (by omega)).trans ((hevF.keep c (Nat.lt_of_lt_of_le hc hg.size) fun h => (hLI c h).elim hL fun h => by omega).trans (hg.keep c hc))
    · rcases hevF.live c (.inr ((hX2 c).2 hc)) with h | h
      · exact (hLI c h).imp id fun h => by omega
      · exact .inr (Nat.le_trans hg.size h)
    · rcases hevF.from_ c hc with h | h | h
      · exact .inl h
      · exact .inr ((hLI c h).imp id fun h => by omega)
      · exact .inr (.inr (Nat.le_trans hg.size h))
  have hfin := hI.step hR4 (by rw [htm] at hF2; exact hF2.mono hl4) (hL2.trans hl4) hev
  have hfin' : Inv w0 A0 bl0 H0 z n w4 A' bl2 s2'.fr s2'.hp { a with defers := mark ++ a.defers } := by
    have hcross : ∀ d ∈ mark, ∀ d' ∈ a.defers, d.target ≠ d'.target := fun d hd d' hd' e => by
      obtain ⟨D, h1, h2, _⟩ := hmk d hd
      obtain ⟨D', g1, _, g2, _⟩ := hI.marks.1 d' hd'
      rw [h1, g1] at e
      simp only [Target.collected.injEq] at e
      omega
    refine ⟨hfin.rep, hfin.frm, hfin.size, ⟨fun d hd => ?_, List.pairwise_append.2 ⟨?_, hfin.marks.2, hcross⟩⟩, fun x hx => ?_, hfin.le, hfin.evo⟩
    · rcases List.mem_append.1 hd with hd | hd
      · obtain ⟨D, h1, h2, h3, h4, h5⟩ := hmk d hd
        have hDA : ¬ A D := fun h => by have := hI.rep.alt D h; omega
        have hDL : ¬ Liv blI (h0' ++ [O.yo u t]) D := fun h => (hLI D h).elim (fun h => by have := (liv_lt hI.rep h).1; omega) h4
        obtain ⟨g1, g2, g3, g4⟩ := hevF.far h3 hDA hDL
        exact ⟨D, h1, Nat.le_trans hI.evo.size h2, by omega, (hk4 D h4).trans (g1.trans h5), g2, fun h => g3 (.inr ((hX2 D).2 h))⟩
      · exact hfin.marks.1 d hd
    · match mark, hmk1 with
      | [], _ => simp
      | [_], _ => simp
    · obtain ⟨h1, h2⟩ := hfin.rnd x hx
      refine ⟨?_, h2⟩
      rw [hmk0 (by simp [Rnd.F, hx])]
      exact h1
  have hq := hQ _ _ _ _ hfin'
  simp only [hpend]
  cases ex1 with
  | nrm => exact hq
  | exit i => exact wpIn_exit hq
  | ret => exact wpIn_ret hq
end
end Go.Ev
