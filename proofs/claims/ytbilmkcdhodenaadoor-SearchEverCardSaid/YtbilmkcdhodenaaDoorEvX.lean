/-
  EV, part X: code, functions: what the abstract interpreter says, the machine does.
-/
import Derived.Test.YtbilmkcdhodenaaDoorEvS
set_option linter.all false
set_option linter.unusedSimpArgs false
set_option linter.unusedVariables false
namespace Go.Ev
section
variable {P : Program} {K : World → Prop} {w0 : World} {A0 : Nat → Prop} {bl0 : Bl} {H0 : Hp} {z : Rnd} {n : Nat} {w w' : World} {A A' : Nat → Prop} {bl bl' : Bl} {H H' : Hp} {fr fr' : Fr} {a : Act}

theorem stepR_scope {b : Frame} {k : List Item} {cs : List Frame} {c : Code} : step P (lone (b.atR a (.code (.scope c) :: k)) cs w) = .next (lone (b.atR a (.code c :: .inScope c :: k)) cs w) :=
  step_lone_go (by simp [stepG, stepG.exec, Frame.atR])
theorem stepR_inScope {b : Frame} {k : List Item} {cs : List Frame} {c : Code} : step P (lone (b.atR a (.inScope c :: k)) cs w) = .next (lone (b.atR a k) cs w) :=
  step_lone_go (by simp [stepG, stepG.exec, Frame.atR])
theorem wpIn_scope_straight {F : Fence} {nn : Nat} {Q : Exit → Act → World → Prop} {c : Code} (h : c.wpIn F nn P (Exit.noGoto Q) a w) : (Code.scope c).wpIn F nn P Q a w := by
  intro b k cs hro hb hr
  have h0 : (lone (b.atR a (.code (.scope c) :: k)) cs w).fenced P F := fenced_calm hb hr rfl
  obtain ⟨e, a₁, w₁, hq, harr⟩ := h b (.inScope c :: k) cs hro hb hr
  cases e with
  | normal => exact ⟨.normal, a₁, w₁, hq, .head h0 stepR_scope (StepsIn.trans harr (.one (fenced_calm hb hr rfl) stepR_inScope))⟩
  | exit id => exact ⟨.exit id, a₁, w₁, hq, fun k' hk => .head h0 stepR_scope (harr.1 k' (by simp [exitTo, hk])), fun hr' hk => let ⟨k₁, h1, h2⟩ := harr.2 hr' (by simp [exitTo, hk]); ⟨k₁, h1, .head h0 stepR_scope h2⟩⟩
  | goto l => exact hq.elim
  | ret => exact ⟨_, a₁, w₁, hq, .of_steps (.one h0 stepR_scope) harr⟩
  | panic ch => exact ⟨_, a₁, w₁, hq, .of_steps (.one h0 stepR_scope) harr⟩
  | outgrown => exact ⟨_, a₁, w₁, hq, .of_steps (.one h0 stepR_scope) harr⟩

/-- The code of a function's body. -/
theorem exec_sound (hdraw : DrawOk P K) {E : Env} {cf : CF} (hcf : CFok P K cf) (hT : ∀ t y, E.T t = some y → tyOf P t = some y) {g : FuncId} {k : Nat} : ∀ (c : Code) {m : Nat} {s s' : St} {ex : Ex}, execF E cf k g n c m s = some (ex, s') → CSound P K n c m s ex s' := by
  intro c
  induction c with
  | skip =>
    intro m s s' ex h w0 A0 bl0 H0 z w A bl a Q hm hcx hI hQ
    simp only [execF, exec, Option.some.injEq, Prod.mk.injEq] at h
    obtain ⟨rfl, rfl⟩ := h
    exact wpIn_skip (hQ _ _ _ _ hI)
  | label l =>
    intro m s s' ex h w0 A0 bl0 H0 z w A bl a Q hm hcx hI hQ
    simp only [execF, exec, Option.some.injEq, Prod.mk.injEq] at h
    obtain ⟨rfl, rfl⟩ := h
    exact wpIn_label (hQ _ _ _ _ hI)
  | region id ops draw =>
    intro m s s' ex h w0 A0 bl0 H0 z w A bl a Q hm hcx hI hQ
    simp only [execF, exec] at h
    split at h <;> simp only [Option.some.injEq, Prod.mk.injEq, reduceCtorEq] at h
    rename_i s1 hs1
    obtain ⟨rfl, rfl⟩ := h
    exact region_sound hdraw hcf hcx hT hs1 hI hQ
  | seq x y ihx ihy =>
    intro m s s' ex h w0 A0 bl0 H0 z w A bl a Q hm hcx hI hQ
    simp only [execF, exec] at h
    refine wpIn_seq ?_
    split at h
    · rename_i s1 h1
      exact ihx h1 _ _ _ _ _ _ _ _ _ _ hm hcx hI fun w' A' bl' a' hI' => ihy h _ _ _ _ _ _ _ _ _ _ hm hcx hI' hQ
    · rename_i hne
      refine ihx h _ _ _ _ _ _ _ _ _ _ hm hcx hI fun w' A' bl' a' hI' => ?_
      have := hQ w' A' bl' a' hI'
      cases ex with
      | nrm => exact absurd h (hne s')
      | exit i => exact this
      | ret => exact this
  | cond c x y ihx ihy =>
    intro m s s' ex h w0 A0 bl0 H0 z w A bl a Q hm hcx hI hQ
    simp only [execF, exec] at h
    split at h
    case h_2 => simp at h
    rename_i t hc
    have hcv := (opd_rep hI.frm hc).bool_inv
    refine wpIn_cond hcv ?_
    cases t with
    | true => exact ihx h _ _ _ _ _ _ _ _ _ _ hm hcx hI hQ
    | false => exact ihy h _ _ _ _ _ _ _ _ _ _ hm hcx hI hQ
  | block id b ih =>
    intro m s s' ex h w0 A0 bl0 H0 z w A bl a Q hm hcx hI hQ
    simp only [execF, exec] at h
    refine wpIn_block ?_
    split at h
    · rename_i i s1 h1
      refine ih h1 _ _ _ _ _ _ _ _ _ _ hm hcx hI fun w' A' bl' a' hI' => ?_
      simp only [exOf, Exit.inBlock]
      split at h <;> simp only [Option.some.injEq, Prod.mk.injEq] at h <;> obtain ⟨rfl, rfl⟩ := h
      · rename_i he
        rw [if_pos he]; exact hQ w' A' bl' a' hI'
      · rename_i he
        rw [if_neg he]; exact hQ w' A' bl' a' hI'
    · rename_i hne
      refine ih h _ _ _ _ _ _ _ _ _ _ hm hcx hI fun w' A' bl' a' hI' => ?_
      have := hQ w' A' bl' a' hI'
      cases ex with
      | nrm => exact this
      | exit i => exact absurd h (hne i s')
      | ret => exact this
  | loop b ih =>
    intro m s s' ex h w0 A0 bl0 H0 z w A bl a Q hm hcx hI hQ
    subst hm
    simp only [execF, exec] at h
    refine wpIn_loop_rounds k ?_
    have key : ∀ (K' : Nat) {s s' : St} {ex : Ex} {w : World} {A : Nat → Prop} {bl : Bl} {a : Act} {Q : Exit → Act → World → Prop},
        iterN K' (headed E g H0.length b (execF E cf k g n b H0.length)) s = some (ex, s') →
        Inv w0 A0 bl0 H0 z n w A bl s.fr s.hp a → (∀ w' A' bl' a', Inv w0 A0 bl0 H0 z n w' A' bl' s'.fr s'.hp a' → Q (exOf ex) a' w') → Code.roundsIn z.F 0 P b Q K' a w := by
      intro K'
      induction K' with
      | zero => intro s s' ex w A bl a Q h; simp [iterN] at h
      | succ K' ihk =>
        intro s s' ex w A bl a Q h hI hQ
        simp only [iterN, headed] at h
        rw [roundsIn_succ]
        cases hnorm : norm E g H0.length b s with
        | none => simp [hnorm] at h
        | some s1 =>
          simp only [hnorm] at h
          obtain ⟨bl1, hI1⟩ := norm_sound hnorm hI
          split at h
          · rename_i s2 h2
            exact ih h2 _ _ _ _ _ _ _ _ _ _ rfl hcx hI1 fun w' A' bl' a' hI' => ihk h hI' hQ
          · rename_i hne
            refine ih h _ _ _ _ _ _ _ _ _ _ rfl hcx hI1 fun w' A' bl' a' hI' => ?_
            have := hQ w' A' bl' a' hI'
            cases ex with
            | nrm => exact absurd h (hne s')
            | exit i => exact this
            | ret => exact this
    exact key k h hI hQ
  | rangeFunc f ps x y ihx ihy =>
    intro m s s' ex h
    simp only [execF, exec] at h
    refine rangeF_sound hcf (fun m s ex s' h => ?_) h
    split at h
    case h_2 => simp at h
    rename_i s1 h1
    exact ⟨s1, ihx h1, ihy h⟩
  | exit id =>
    intro m s s' ex h w0 A0 bl0 H0 z w A bl a Q hm hcx hI hQ
    simp only [execF, exec, Option.some.injEq, Prod.mk.injEq] at h
    obtain ⟨rfl, rfl⟩ := h
    exact wpIn_exit (hQ _ _ _ _ hI)
  | scope b ih =>
    intro m s s' ex h w0 A0 bl0 H0 z w A bl a Q hm hcx hI hQ
    simp only [execF, exec] at h
    refine wpIn_scope_straight (ih h _ _ _ _ _ _ _ _ _ _ hm hcx hI fun w' A' bl' a' hI' => ?_)
    have := hQ w' A' bl' a' hI'
    cases ex <;> exact this
  | goto l => intro m s s' ex h; simp [execF, exec] at h
  | ret =>
    intro m s s' ex h w0 A0 bl0 H0 z w A bl a Q hm hcx hI hQ
    simp only [execF, exec, Option.some.injEq, Prod.mk.injEq] at h
    obtain ⟨rfl, rfl⟩ := h
    exact wpIn_ret (hQ _ _ _ _ hI)
  | refuse why => intro m s s' ex h; simp [execF, exec] at h

/-! ## functions -/
theorem frame0_get : ∀ {l : List V} {p t : Nat} {v : V}, get (frame0 p l) t = some v → ∃ j, t = p + j ∧ l[j]? = some v
  | [], p, t, v, h => by simp [frame0, get] at h
  | x :: r, p, t, v, h => by
    simp only [frame0, get] at h
    split at h
    · simp only [Option.some.injEq] at h
      exact ⟨0, by omega, by simp [h]⟩
    · obtain ⟨j, h1, h2⟩ := frame0_get h
      exact ⟨j + 1, by omega, by simpa using h2⟩

def resM (tmps : Array Value) : ResultVar → Sem Value
  | .tmp t => pure (tmps.getD t undef)
  | .cell a t => do loadVar t (← asAddr (tmps.getD a undef))

theorem resL_run {T : TypeId → Option Ty} (hT : ∀ t y, T t = some y → tyOf P t = some y) {s : St} {tmps : Array Value} (hH : RepH w A bl s.hp) (hF : RepF w A bl s.hp s.fr tmps) : ∀ {rs : List ResultVar} {vals : List V}, resL T s rs = some vals →
    ∃ us, (rs.mapM (resM tmps)).run P w = .ok us w ∧ RepL w A bl s.hp vals us
  | [], vals, h => by
    simp only [resL, Option.some.injEq] at h
    subst h
    exact ⟨[], rfl, rfl, fun j x u hj => by simp at hj⟩
  | .tmp t :: r, vals, h => by
    simp only [resL] at h
    split at h <;> simp only [Option.some.injEq, reduceCtorEq] at h
    rename_i v l hv hl
    subst h
    obtain ⟨us, h1, h2, h3⟩ := resL_run hT hH hF hl
    obtain ⟨u, g1, g2⟩ := hF.at_ t v hv
    refine ⟨u :: us, ?_, by simp [h2], fun j x u' hj hu => ?_⟩
    · simp only [List.mapM_cons, resM, Sem.run_bind, Sem.run_pure, Result.andThen_ok, h1]
      simp [Array.getD_eq_getD_getElem?, g1]
    · cases j with
      | zero => simp at hj hu; subst hj; subst hu; exact g2
      | succ j => simp at hj hu; exact h3 j x u' hj hu
  | .cell c t :: r, vals, h => by
    simp only [resL] at h
    split at h
    case h_2 => simp at h
    rename_i v y l hv hy hl
    split at h <;> simp only [Option.some.injEq, reduceCtorEq] at h
    rename_i x hx
    subst h
    obtain ⟨us, h1, h2, h3⟩ := resL_run hT hH hF hl
    obtain ⟨u, g1, g2⟩ := hF.at_ c v hv
    obtain ⟨q, q1, q2⟩ := loadV_run (P := P) hT hH hy hx g2
    obtain ⟨ad, rfl⟩ : ∃ ad, u = .pointer (some ad) := by
      unfold loadV at hx
      split at hx
      · obtain ⟨ad, h, _⟩ := g2.fp_inv; exact ⟨ad, h⟩
      · obtain ⟨ad, h, _⟩ := g2.ptr_inv; exact ⟨ad, h⟩
      · simp at hx
    refine ⟨q :: us, ?_, by simp [h2], fun j x u' hj hu => ?_⟩
    · have e : tmps.getD c undef = .pointer (some ad) := by simp [Array.getD_eq_getD_getElem?, g1]
      have q1' : (loadVar t ad).run P w = .ok q w := by
        unfold Instr.loadAt at q1
        simpa [Instr.sureAddr] using q1
      simp only [List.mapM_cons, resM, Sem.run_bind, e, asAddr, Sem.run_pure, Result.andThen_ok, q1', h1]
    · cases j with
      | zero => simp at hj hu; subst hj; subst hu; exact q2
      | succ j => simp at hj hu; exact h3 j x u' hj hu

theorem leave_sound {fz : Bool} {vals vals' : List V} {us : List Value} (hv : RepL w A bl H vals us) (hr : RepH w A bl H) (hl : Le w0 A0 bl0 H0 w A bl H) (he : Evo w0 A0 (Liv bl0 H0) w A (Liv bl H)) (h : leave fz H0.length vals H = some (vals', H')) :
    ∃ A' bl', RepL w A' bl' H' vals' us ∧ RepH w A' bl' H' ∧ Le w0 A0 bl0 H0 w A' bl' H' ∧ Evo w0 A0 (Liv bl0 H0) w A' (Liv bl' H') := by
  unfold leave at h
  dsimp only at h
  split at h
  · simp only [Option.some.injEq, Prod.mk.injEq] at h
    obtain ⟨rfl, rfl⟩ := h
    exact ⟨A, bl, hv, hr, hl, he⟩
  · generalize (fun i => fz && decide (H0.length ≤ i) && (if fz = true then idsL vals else []).contains i : Nat → Bool) = p at h
    split at h
    case h_2 => simp at h
    rename_i h1 ht
    split at h <;> simp only [Option.some.injEq, Prod.mk.injEq, reduceCtorEq] at h
    rename_i hd
    obtain ⟨rfl, rfl⟩ := h
    have r1 := frz_rep hr p
    exact ⟨_, _, repL_ren (sub_ren ht) (repL_frz hr hv), sub_rep r1 ht hd, sub_le (frz_le hl p) ht (fun i hi => gcK_pre hi), (he.trans (frz_evo hr p)).trans (Evo.less fun c hc => sub_liv ht hc)⟩

theorem results_pack (fn : Func) (tmps : Array Value) {us : List Value} (h : (fn.results.toList.mapM (resM tmps)).run P w = .ok us w) : (results fn tmps).run P w = .ok (pack us) w := by
  have e : results fn tmps = (do let vs ← fn.results.mapM (resM tmps); pure (if h : vs.size = 1 then vs[0] else .tuple vs)) := by
    unfold results
    congr 1
  rw [e, Array.mapM_eq_mapM_toList]
  simp only [Sem.run_bind, Sem.run_map, h, Result.andThen_ok, Sem.run_pure]
  match us with
  | [] => rfl
  | [u] => rfl
  | _ :: _ :: _ => rfl

/-- The marks of the loops over iterators are taken up when the function is left. -/
theorem marks_end {fn : Func} {tmps : Array Value} {R : Ending → World → Prop} {L : Nat → Prop} : ∀ {ds : List Deferred} {w : World}, (∀ d ∈ ds, MarkOk w0 w A L d) → ds.Pairwise (fun d d' => d.target ≠ d'.target) →
    (∀ w', (∀ c, A c ∨ L c ∨ c < w0.heap.size → w'.heap[c]? = w.heap[c]?) → w'.heap.size = w.heap.size → w'.os = w.os → w'.tape = w.tape → w'.output = w.output → LeavesIn Fence.wide 0 P fn tmps R [] .returning w') → LeavesInM Fence.wide 0 P fn tmps R ds .returning w
  | [], w, _, _, h => h w (fun _ _ => rfl) rfl rfl rfl rfl
  | d :: ds, w, hm, hd, h => by
    obtain ⟨D, h1, h2, h3, h4, h5, h6⟩ := hm d (by simp)
    rw [List.pairwise_cons] at hd
    refine ⟨by simp, .inl ⟨D, _, h1, run_takeDeferred h4, marks_end (fun d' hd' => ?_) hd.2 fun w' k1 k2 k3 k4 k5 => h w' (fun c hc => (k1 c hc).trans (World.putObj_heap_other fun e => ?_)) (by rw [k2]; simp) k3 k4 k5⟩⟩
    · obtain ⟨D', g1, g2, g3, g4, g5, g6⟩ := hm d' (by simp [hd'])
      refine ⟨D', g1, g2, by simpa using g3, (World.putObj_heap_other fun e => ?_).trans g4, g5, g6⟩
      subst e
      exact hd.1 d' hd' (h1.trans g1.symm)
    · subst e
      rcases hc with hc | hc | hc
      · exact h5 hc
      · exact h6 hc
      · omega

theorem runF_sound (hdraw : DrawOk P K) {E : Env} {cf : CF} (hcf : CFok P K cf) (hT : ∀ t y, E.T t = some y → tyOf P t = some y) {k : Nat} {g : FuncId} {fn : Func} (hfn : P.funcs[g]? = some fn) {args vals : List V} {H H' : Hp} (h : runF E cf k g fn args H = some (vals, H')) : Sound P K g args H vals H' := by
  intro w A bl us hcx hH hargs
  unfold runF at h
  split at h
  case h_1 => simp at h
  rename_i code hcode
  dsimp only at h
  have hlen := hargs.1
  have hI : Inv w A bl H ⟨Liv bl H, none⟩ (args.length + (fn.ntmps - args.length)) w A bl (frame0 0 args) H { tmps := us.toArray ++ Array.replicate (fn.ntmps - us.toArray.size) undef, defers := [] } := by
    refine ⟨hH, ⟨fun t v ht => ?_⟩, by simp [hlen], ⟨by simp, by simp⟩, by simp, Le.refl _ _ _ _, Evo.refl _ _ _⟩
    obtain ⟨j, rfl, hj⟩ := frame0_get ht
    have hlt := (List.getElem?_eq_some_iff.1 hj).1
    refine ⟨us[j]'(by omega), ?_, hargs.2 j v _ hj (by simp)⟩
    rw [Nat.zero_add, Array.getElem?_append_left (by simp; omega)]
    simp
  have fin : ∀ {ex : Ex} {s : St}, execF E cf k g (args.length + (fn.ntmps - args.length)) code H.length ⟨frame0 0 args, H⟩ = some (ex, s) → (ex = .nrm ∨ ex = .ret) →
      (match resW E g s fn.results.toList with | some vals => leave (E.frz g) H.length vals s.hp | none => none) = some (vals, H') →
      Calls P g us.toArray w fun e w' => ∃ A' bl' rs, e = .returned (pack rs) ∧ RepL w' A' bl' H' vals rs ∧ RepH w' A' bl' H' ∧ Le w A bl H w' A' bl' H' ∧ Evo w A (Liv bl H) w' A' (Liv bl' H') := by
    intro ex s hex hnr hres
    refine (callsIn_wide (n := 0)).1 (callsIn_of_wp_marks hfn hcode trivial (exec_sound hdraw hcf hT code hex _ _ _ _ _ _ _ _ _ _ rfl hcx hI fun w' A' bl' a' hI' => ?_))
    have hpost : LeavesInM Fence.wide 0 P fn a'.tmps (fun e w' => ∃ A' bl' rs, e = .returned (pack rs) ∧ RepL w' A' bl' H' vals rs ∧ RepH w' A' bl' H' ∧ Le w A bl H w' A' bl' H' ∧ Evo w A (Liv bl H) w' A' (Liv bl' H')) a'.defers .returning w' := by
      refine marks_end hI'.marks.1 hI'.marks.2 fun w2 k1 k2 k3 k4 k5 => ?_
      obtain ⟨hr2, hl2⟩ := hI'.rep.still (w' := w2) (fun _ h => h) (fun c hc => by rw [k2]; exact hI'.rep.alt c hc) (fun c hc => (liv_lt hI'.rep hc).2) (fun c hc => k1 c (hc.elim (fun h => .inr (.inl h)) .inl)) (Nat.le_of_eq k2.symm) k3 k4 k5
      have hev : Evo w A (Liv bl H) w2 A' (Liv bl' s.hp) := ⟨k3.trans hI'.evo.os, k4.trans hI'.evo.tape, k5.trans hI'.evo.output, by rw [k2]; exact hI'.evo.size, fun c hc hL => (k1 c (.inr (.inr hc))).trans (hI'.evo.keep c hc hL), hI'.evo.live, hI'.evo.from_⟩
      split at hres
      case h_2 => simp at hres
      rename_i vals0 hv0
      unfold resW at hv0
      split at hv0 <;> simp only [Option.some.injEq, reduceCtorEq] at hv0
      rename_i vals00 hv00
      obtain ⟨rs, r1, r2⟩ := resL_run (P := P) hT hr2 (hI'.frm.mono hl2) hv00
      have r2 := mapTL_rep (fun z x u => C.weak_rep (x := x) (u := u) z) (E.wk g) r2
      rw [hv0] at r2
      obtain ⟨A2, bl2, q1, q2, q3, q4⟩ := leave_sound r2 hr2 (hI'.le.trans hl2) hev hres
      exact ⟨_, results_pack fn a'.tmps r1, A2, bl2, rs, rfl, q1, q2, q3, q4⟩
    rcases hnr with rfl | rfl <;> exact hpost
  split at h
  · rename_i s hs; exact fin hs (.inl rfl) h
  · rename_i s hs; exact fin hs (.inr rfl) h
  · simp at h

/-- What the rest of the program is: the functions that are told by something else than their text. -/
structure EnvOk (P : Program) (K : World → Prop) (E : Env) : Prop where
  T : ∀ t y, E.T t = some y → tyOf P t = some y
  B : ∀ g fn, E.B g = some fn → P.funcs[g]? = some fn
  enter : ∀ g fn, E.B g = some fn → fn.body.isSome = true → (fn.name == "runtime.NumGoroutine") = false
  ext : ∀ g f args H vals H', E.ext g = some f → f args H = some (vals, H') → Enter P g ∧ Sound P K g args H vals H'

theorem nilArg_rep {b : Bool} {args a1 a2 : List V} (h : nilArg b args = some (a1, a2)) {us : List Value} (hr : RepL w A bl H args us) : RepL w A bl H a1 us ∨ RepL w A bl H a2 us := by
  unfold nilArg at h
  split at h <;> simp only [Option.some.injEq, Prod.mk.injEq, reduceCtorEq] at h
  rename_i z t r
  obtain ⟨rfl, rfl⟩ := h
  obtain ⟨h1, h2⟩ := hr
  match us, h1 with
  | u :: us, h1 =>
    have h0 := h2 0 _ u rfl rfl
    have build : ∀ x, RepV w A bl H x u → RepL w A bl H (x :: r) (u :: us) := fun x hx => ⟨by simpa using h1, fun j y v hj hv => by
      cases j with
      | zero => simp at hj hv; subst hj; subst hv; exact hx
      | succ j => exact h2 (j + 1) y v hj hv⟩
    cases h0 with
    | c _ _ hc =>
      cases hc with
      | slnil => exact .inl (build _ (.c _ _ (.slnil _ _ _ (by simp))))
      | sl _ _ _ _ a cap vs g1 g2 g3 g4 g5 g6 g7 => exact .inr (build _ (.c _ _ (.sl _ _ _ _ a cap vs g1 (by simp) g3 g4 g5 g6 g7)))

theorem callN_sound (hdraw : DrawOk P K) {E : Env} (hE : EnvOk P K E) : ∀ k, CFok P K (callN E k)
  | 0 => fun g args H vals H' h => by simp [callN] at h
  | k + 1 => fun g args H vals H' h => by
    simp only [callN] at h
    split at h
    · rename_i f hf; exact hE.ext g f args H vals H' hf h
    · split at h
      case h_2 => simp at h
      rename_i fn hfn
      have ent : ∀ {args : List V} {vals : List V} {H' : Hp}, runF E (callN E k) k g fn args H = some (vals, H') → Enter P g := by
        intro args vals H' h as w
        have hb : fn.body.isSome = true := by
          unfold runF at h
          split at h
          · simp at h
          · simp [*]
        have hn := hE.enter g fn hfn hb
        have hnone : fn.body.isNone = false := by simpa using hb
        simp only [callFunc, Sem.run_bind, run_program, Result.andThen_ok, hE.B g fn hfn]
        rw [if_neg (by simpa using hn), if_neg (by simp [hnone])]
        rfl
      split at h
      · rename_i a1 a2 hna
        unfold both at h
        split at h
        case isFalse => simp at h
        rename_i hs
        have h' := h
        rw [sameR_eq hs] at h'
        refine ⟨ent h, fun w A bl us hcx hH hargs => ?_⟩
        rcases nilArg_rep hna hargs with h1 | h1
        · exact runF_sound hdraw (callN_sound hdraw hE k) hE.T (hE.B g fn hfn) h w A bl us hcx hH h1
        · exact runF_sound hdraw (callN_sound hdraw hE k) hE.T (hE.B g fn hfn) h' w A bl us hcx hH h1
      · exact ⟨ent h, runF_sound hdraw (callN_sound hdraw hE k) hE.T (hE.B g fn hfn) h⟩
end
end Go.Ev
