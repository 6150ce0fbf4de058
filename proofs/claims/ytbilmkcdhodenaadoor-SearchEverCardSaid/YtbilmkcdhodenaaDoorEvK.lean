/-
  EV, part K: without fuel: what the interpreter says with enough of it.
-/
import Derived.Test.YtbilmkcdhodenaaDoorEvJ
import Derived.Test.YtbilmkcdhodenaaDoorEvX
set_option linter.all false
set_option linter.unusedSimpArgs false
set_option linter.unusedVariables false
namespace Go.Ev

/-! ## more fuel, the same answer -/
def CF.le (c d : CF) : Prop := ∀ g a h r, c g a h = some r → d g a h = some r
theorem CF.le_refl (c : CF) : c.le c := fun _ _ _ _ h => h

theorem xcall_le {byref : Nat → Bool} {c d : CF} {g : FuncId} {args : List V} {fr : Fr} {hp : Hp} {r : List V × Fr × Hp × Nat} (hcd : ∀ a h r, c g a h = some r → d g a h = some r) (h : xcall byref c g args fr hp = some r) : xcall byref d g args fr hp = some r := by
  unfold xcall at h ⊢
  dsimp only at h ⊢
  generalize (if (snapIds byref 0 args).isEmpty = true then args else frzL hp (fun i => (snapIds byref 0 args).contains i) args) = args1 at h ⊢
  generalize (if (snapIds byref 0 args).isEmpty = true then hp else frzH (fun i => (snapIds byref 0 args).contains i) hp) = hp1 at h ⊢
  split at h
  case h_1 => simp at h
  rename_i h0 ht
  split at h
  case isFalse => simp at h
  rename_i hd
  split at h
  case h_1 => simp at h
  rename_i vals h1 hc
  simp only [hcd _ _ _ hc, hd, if_true]
  exact h

theorem opx_le {E : Env} {c d : CF} (hcd : c.le d) {g : FuncId} {fr : Fr} {hp : Hp} {o : Oper} {r : V × Fr × Hp × Nat} (h : opx E c g fr hp o = some r) : opx E d g fr hp o = some r := by
  unfold opx at h ⊢
  split at h
  · split at h
    case h_3 => simp at h
    case h_2 => exact h
    rename_i gf caps l h1 h2
    split at h <;> simp only [Option.some.injEq, reduceCtorEq] at h
    rename_i vals fr' hp' k hx
    simp only [xcall_le (fun a h r => hcd _ a h r) hx, h]
  · exact h

theorem runOps_le {E : Env} {c d : CF} (hcd : c.le d) {g : FuncId} {n : Nat} {ops : List Oper} : ∀ {l : List Oper} {fr : Fr} {hp : Hp} {r : Fr × Hp × List Nat}, runOps E c g n ops l fr hp = some r → runOps E d g n ops l fr hp = some r
  | [], fr, hp, r, h => h
  | o :: l, fr, hp, r, h => by
    simp only [runOps] at h ⊢
    split at h
    · simp at h
    · split at h
      case h_2 => simp at h
      rename_i fr1 hput
      split at h <;> simp only [Option.some.injEq, reduceCtorEq] at h
      rename_i fr2 hp2 ks hrest
      simp only [runOps_le hcd hrest, h]
    · split at h
      case h_2 => simp at h
      rename_i v fr1 hp1 k hx
      split at h
      case h_2 => simp at h
      rename_i fr2 hput
      split at h <;> simp only [Option.some.injEq, reduceCtorEq] at h
      rename_i fr3 hp3 ks hrest
      simp only [opx_le hcd hx, hput, runOps_le hcd hrest, h]

theorem region_le {E : Env} {c d : CF} (hcd : c.le d) {g : FuncId} {n id : Nat} {ops : List Oper} {draw : Bool} {s s' : St} (h : region E c g n id ops draw s = some s') : region E d g n id ops draw s = some s' := by
  unfold region at h ⊢
  split at h
  case h_2 => simp at h
  rename_i fr hp ks hr
  simp only [runOps_le hcd hr, h]

theorem iterN_le {f f' : St → Option (Ex × St)} (hf : ∀ s r, f s = some r → f' s = some r) : ∀ {k k' : Nat} {s : St} {r : Ex × St}, k ≤ k' → iterN k f s = some r → iterN k' f' s = some r
  | 0, _, s, r, _, h => by simp [iterN] at h
  | k + 1, 0, s, r, hk, _ => by omega
  | k + 1, k' + 1, s, r, hk, h => by
    simp only [iterN] at h ⊢
    split at h
    · rename_i s1 h1
      simp only [hf _ _ h1]
      exact iterN_le hf (by omega) h
    · rename_i hne
      rw [hf _ _ h]
      cases r with
      | mk e s1 => cases e <;> first | rfl | exact absurd h (hne _)

theorem exec_le {rg rg' : Nat → List Oper → Bool → St → Option St} {lp lp' : Nat → Code → (St → Option (Ex × St)) → St → Option (Ex × St)} {rf rf' : Nat → Operand → List Nat → Code → (Nat → St → Option (Ex × St)) → St → Option (Ex × St)} (hrg : ∀ id ops dr s s', rg id ops dr s = some s' → rg' id ops dr s = some s')
    (hlp : ∀ m b f f', (∀ s r, f s = some r → f' s = some r) → ∀ s r, lp m b f s = some r → lp' m b f' s = some r)
    (hrf : ∀ m f ps b d d', (∀ m s r, d m s = some r → d' m s = some r) → ∀ s r, rf m f ps b d s = some r → rf' m f ps b d' s = some r) : ∀ {c : Code} {m : Nat} {s : St} {r : Ex × St}, exec rg lp rf c m s = some r → exec rg' lp' rf' c m s = some r := by
  intro c
  induction c with
  | skip => exact fun h => h
  | label => exact fun h => h
  | exit => exact fun h => h
  | ret => exact fun h => h
  | region id ops draw =>
    intro m s r h
    simp only [exec] at h ⊢
    split at h <;> simp only [Option.some.injEq, reduceCtorEq] at h
    rename_i s1 h1
    simp only [hrg _ _ _ _ _ h1, h]
  | seq x y ihx ihy =>
    intro m s r h
    simp only [exec] at h ⊢
    split at h
    · rename_i s1 h1
      simp only [ihx h1]
      exact ihy h
    · rename_i hne
      rw [ihx h]
      cases r with
      | mk e s1 => cases e <;> first | rfl | exact absurd h (hne _)
  | cond x a b iha ihb =>
    intro m s r h
    simp only [exec] at h ⊢
    split at h
    case h_2 => simp at h
    rename_i t ht
    cases t with
    | true => exact iha h
    | false => exact ihb h
  | block id b ih =>
    intro m s r h
    simp only [exec] at h ⊢
    split at h
    · rename_i i s1 h1
      simp only [ih h1]; exact h
    · rename_i hne
      rw [ih h]
      cases r with
      | mk e s1 => cases e <;> first | rfl | exact absurd h (hne _ _)
  | loop b ih =>
    intro m s r h
    simp only [exec] at h ⊢
    exact hlp _ _ _ _ (fun s r => ih) _ _ h
  | scope b ih =>
    intro m s r h
    simp only [exec] at h ⊢
    exact ih h
  | rangeFunc f ps x y ihx ihy =>
    intro m s r h
    simp only [exec] at h ⊢
    refine hrf _ _ _ _ _ _ (fun m s r h => ?_) _ _ h
    split at h
    · rename_i s1 h1
      simp only [ihx h1]
      exact ihy h
    · simp at h
  | goto => intro m s r h; simp [exec] at h
  | refuse => intro m s r h; simp [exec] at h

theorem roundsE_le {n : Nat} {ps : List Nat} {nm : St → Option St} {d d' : Nat → St → Option (Ex × St)} (hd : ∀ m s r, d m s = some r → d' m s = some r) : ∀ {es : List (List V)} {s : St} {r : Ex × St × List (List V) × Bool}, roundsE n ps nm d es s = some r → roundsE n ps nm d' es s = some r
  | [], s, r, h => h
  | e :: es, s, r, h => by
    simp only [roundsE] at h ⊢
    split at h
    case h_2 => simp at h
    rename_i fr hc hp
    split at h
    · rename_i s1 h1
      simp only [hd _ _ _ h1]
      split at h
      case h_2 => simp at h
      rename_i s2 h2
      split at h
      case h_2 => simp at h
      rename_i h3
      simp only [roundsE_le hd h3]
      exact h
    · rename_i ex s1 hne h1
      simp only [hd _ _ _ h1]
      cases ex with
      | nrm => exact absurd rfl hne
      | _ => exact h
    · simp at h
theorem rangeG_le {E : Env} {c c' : CF} (hc : c.le c') {g n m : Nat} {f : Operand} {ps : List Nat} {b : Code} {d d' : Nat → St → Option (Ex × St)} (hd : ∀ m s r, d m s = some r → d' m s = some r) {s : St} {r : Ex × St} (h : rangeG E c g n m f ps b d s = some r) : rangeG E c' g n m f ps b d' s = some r := by
  unfold rangeG at h ⊢
  split at h
  case h_2 => simp at h
  rename_i gi caps h1
  split at h
  case h_2 => simp at h
  rename_i args h0 ids h2
  split at h
  case h_2 => simp at h
  rename_i es h3
  split at h
  case h_2 => simp at h
  rename_i ex s' u t h4
  split at h
  case h_2 => simp at h
  rename_i vals h5 h6
  simp only [h2, h3, roundsE_le hd h4, hc _ _ _ _ h6]
  exact h
theorem rangeF_le {E : Env} {c c' : CF} (hc : c.le c') {g n m : Nat} {f : Operand} {ps : List Nat} {b : Code} {d d' : Nat → St → Option (Ex × St)} (hd : ∀ m s r, d m s = some r → d' m s = some r) {s : St} {r : Ex × St} (h : rangeF E c g n m f ps b d s = some r) : rangeF E c' g n m f ps b d' s = some r := by
  unfold rangeF at h ⊢
  split at h
  · exact rangeG_le hc hd h
  · simp at h

section
variable {E : Env} {g : FuncId} {n m : Nat}

abbrev goN := headed
/-- The code of function g, with some fuel. -/
def execN (E : Env) (g : FuncId) (n m : Nat) (k : Nat) (c : Code) (s : St) : Option (Ex × St) := execF E (callN E k) k g n c m s

theorem goN_le {b : Code} {f f' : St → Option (Ex × St)} (hf : ∀ s r, f s = some r → f' s = some r) : ∀ s r, goN E g m b f s = some r → goN E g m b f' s = some r := by
  intro s r h
  unfold goN headed at h ⊢
  split at h
  · exact hf _ _ h
  · simp at h

theorem execN_of {k k' : Nat} (hc : (callN E k).le (callN E k')) (hk : k ≤ k') {c : Code} {s : St} {r : Ex × St} (h : execN E g n m k c s = some r) : execN E g n m k' c s = some r := by
  unfold execN execF at h ⊢
  refine exec_le ?_ ?_ ?_ h
  · intro id ops dr s s' h
    exact region_le hc h
  · intro m b f f' hf s r h
    exact iterN_le (goN_le hf) hk h
  · intro m f ps b d d' hd s r h
    exact rangeF_le hc hd h

def runG (E : Env) (g : FuncId) (k : Nat) (fn : Func) (args : List V) (hp : Hp) : Option (List V × Hp) :=
  match fn.body with
  | none => none
  | some code => match execN E g (args.length + (fn.ntmps - args.length)) hp.length k code ⟨frame0 0 args, hp⟩ with
    | some (.nrm, s) | some (.ret, s) => match resW E g s fn.results.toList with
      | some vals => leave (E.frz g) hp.length vals s.hp
      | none => none
    | _ => none
theorem runF_eq {k : Nat} {fn : Func} {args : List V} {hp : Hp} : runF E (callN E k) k g fn args hp = runG E g k fn args hp := rfl

theorem runF_le {k k' : Nat} (hc : (callN E k).le (callN E k')) (hk : k ≤ k') {fn : Func} {args : List V} {hp : Hp} {r : List V × Hp} (h : runF E (callN E k) k g fn args hp = some r) : runF E (callN E k') k' g fn args hp = some r := by
  rw [runF_eq] at h ⊢
  unfold runG at h ⊢
  split at h
  case h_1 => simp at h
  rename_i code hcode
  split at h
  · rename_i s hs
    simp only [execN_of hc hk hs]; exact h
  · rename_i s hs
    simp only [execN_of hc hk hs]; exact h
  · simp at h

theorem both_le {r r' s s' : Option (List V × Hp)} {x : List V × Hp} (hr : ∀ x, r = some x → r' = some x) (hs : ∀ x, s = some x → s' = some x) (h : both r s = some x) : both r' s' = some x := by
  unfold both at h ⊢
  split at h
  case isFalse => simp at h
  rename_i hsame
  have := sameR_eq hsame
  subst this
  rw [hr x h, hs x h]
  rw [h] at hsame
  rw [if_pos hsame]

theorem callN_le : ∀ {k k' : Nat}, k ≤ k' → (callN E k).le (callN E k')
  | 0, _, _ => fun g a h r hr => by simp [callN] at hr
  | k + 1, 0, hk => by omega
  | k + 1, k' + 1, hk => fun g a h r hr => by
    have ih : (callN E k).le (callN E k') := callN_le (by omega)
    simp only [callN] at hr ⊢
    split at hr
    · exact hr
    · split at hr
      case h_2 => simp at hr
      split at hr
      · exact both_le (fun x hx => runF_le ih (by omega) hx) (fun x hx => runF_le ih (by omega) hx) hr
      · exact runF_le ih (by omega) hr

theorem execN_le {k k' : Nat} (hk : k ≤ k') {c : Code} {s : St} {r : Ex × St} (h : execN E g n m k c s = some r) : execN E g n m k' c s = some r := execN_of (callN_le hk) hk h

/-! ## limits -/
open Classical in
noncomputable def lim {α : Type} (F : Nat → Option α) : Option α := if h : ∃ r k, F k = some r then some h.choose else none
theorem lim_iff {α : Type} {F : Nat → Option α} (hF : ∀ k k' r, k ≤ k' → F k = some r → F k' = some r) {r : α} : lim F = some r ↔ ∃ k, F k = some r := by
  constructor
  · intro h
    unfold lim at h
    split at h
    · rename_i he
      simp only [Option.some.injEq] at h
      rw [← h]; exact he.choose_spec
    · simp at h
  · rintro ⟨k, hk⟩
    have he : ∃ r k, F k = some r := ⟨r, k, hk⟩
    unfold lim
    rw [dif_pos he]
    obtain ⟨k', hk'⟩ := he.choose_spec
    have h1 := hF k (max k k') r (Nat.le_max_left _ _) hk
    have h2 := hF k' (max k k') _ (Nat.le_max_right _ _) hk'
    rw [h1] at h2
    exact h2.symm

noncomputable def call (E : Env) : CF := fun g a h => lim fun k => callN E k g a h
theorem call_iff {a : List V} {h : Hp} {r : List V × Hp} : call E g a h = some r ↔ ∃ k, callN E k g a h = some r := lim_iff fun _ _ _ hk h => callN_le hk _ _ _ _ h

theorem call_sound {P : Program} {K : World → Prop} (hdraw : DrawOk P K) (hE : EnvOk P K E) : CFok P K (call E) := fun g args H vals H' h => by
  obtain ⟨k, hk⟩ := call_iff.1 h
  exact callN_sound hdraw hE k g args H vals H' hk

noncomputable def execL (E : Env) (g : FuncId) (n m : Nat) (c : Code) (s : St) : Option (Ex × St) := lim fun k => execN E g n m k c s
theorem execL_iff {c : Code} {s : St} {r : Ex × St} : execL E g n m c s = some r ↔ ∃ k, execN E g n m k c s = some r := lim_iff fun _ _ _ hk h => execN_le hk h

/-- A loop, from a state at its head. -/
def loopN (E : Env) (g : FuncId) (n m : Nat) (k : Nat) (b : Code) (s : St) : Option (Ex × St) := match execN E g n m k b s with
  | some (.nrm, s) => iterN k (goN E g m b (execN E g n m k b)) s
  | r => r
theorem loopN_le {k k' : Nat} (hk : k ≤ k') {b : Code} {s : St} {r : Ex × St} (h : loopN E g n m k b s = some r) : loopN E g n m k' b s = some r := by
  unfold loopN at h ⊢
  split at h
  · rename_i s1 h1
    simp only [execN_le hk h1]
    exact iterN_le (goN_le fun _ _ => execN_le hk) hk h
  · rename_i hne
    rw [execN_le hk h]
    cases r with
    | mk e s1 => cases e <;> first | rfl | exact absurd h (hne _)
noncomputable def loopL (E : Env) (g : FuncId) (n m : Nat) (b : Code) (s : St) : Option (Ex × St) := lim fun k => loopN E g n m k b s
theorem loopL_iff {b : Code} {s : St} {r : Ex × St} : loopL E g n m b s = some r ↔ ∃ k, loopN E g n m k b s = some r := lim_iff fun _ _ _ hk h => loopN_le hk h

/-! ## steps -/
theorem opx_lim {fr : Fr} {hp : Hp} {o : Oper} {r : V × Fr × Hp × Nat} (h : opx E (call E) g fr hp o = some r) : ∃ k, opx E (callN E k) g fr hp o = some r := by
  unfold opx at h
  split at h
  · rename_i f args ts ho
    split at h
    case h_3 => simp at h
    case h_2 =>
      refine ⟨0, ?_⟩
      unfold opx
      simp only [ho, *]
    rename_i gf caps l h1 h2
    split at h <;> simp only [Option.some.injEq, reduceCtorEq] at h
    rename_i vals fr' hp' k hx
    have : ∃ k1, xcall (E.byref gf) (callN E k1) gf (mapTL C.fix (E.fx gf) (l ++ caps)) fr hp = some (vals, fr', hp', k) := by
      generalize mapTL C.fix (E.fx gf) (l ++ caps) = args at hx
      generalize E.byref gf = byref at hx
      unfold xcall at hx ⊢
      dsimp only at hx ⊢
      generalize (if (snapIds byref 0 args).isEmpty = true then args else frzL hp (fun i => (snapIds byref 0 args).contains i) args) = args1 at hx ⊢
      generalize (if (snapIds byref 0 args).isEmpty = true then hp else frzH (fun i => (snapIds byref 0 args).contains i) hp) = hp1 at hx ⊢
      split at hx
      case h_1 => simp at hx
      rename_i h0 ht
      split at hx
      case isFalse => simp at hx
      rename_i hd
      split at hx
      case h_1 => simp at hx
      rename_i vals h1 hc
      obtain ⟨k, hk⟩ := call_iff.1 hc
      refine ⟨k, ?_⟩
      simp only [ht, hd, if_true, hk]
      exact hx
    obtain ⟨k, hk⟩ := this
    refine ⟨k, ?_⟩
    unfold opx
    simp only [ho, h1, h2, hk, h]
  · rename_i hne
    refine ⟨0, ?_⟩
    unfold opx
    split
    · rename_i f args ts ho; exact absurd ho (hne _ _ _)
    · exact h

theorem runOps_lim {ops : List Oper} : ∀ {l : List Oper} {fr : Fr} {hp : Hp} {r : Fr × Hp × List Nat}, runOps E (call E) g n ops l fr hp = some r → ∃ k, runOps E (callN E k) g n ops l fr hp = some r
  | [], fr, hp, r, h => ⟨0, h⟩
  | o :: l, fr, hp, r, h => by
    simp only [runOps] at h ⊢
    split at h
    · simp at h
    · rename_i hw
      split at h
      case h_2 => simp at h
      rename_i fr1 hput
      split at h <;> simp only [Option.some.injEq, reduceCtorEq] at h
      rename_i fr2 hp2 ks hrest
      obtain ⟨k, hk⟩ := runOps_lim hrest
      exact ⟨k, by simp only [hw, hput, hk, h]⟩
    · rename_i hw
      split at h
      case h_2 => simp at h
      rename_i v fr1 hp1 k hx
      split at h
      case h_2 => simp at h
      rename_i fr2 hput
      split at h <;> simp only [Option.some.injEq, reduceCtorEq] at h
      rename_i fr3 hp3 ks hrest
      obtain ⟨k1, hk1⟩ := opx_lim hx
      obtain ⟨k2, hk2⟩ := runOps_lim hrest
      exact ⟨max k1 k2, by simp only [hw, opx_le (callN_le (Nat.le_max_left k1 k2)) hk1, hput, runOps_le (callN_le (Nat.le_max_right k1 k2)) hk2, h]⟩

theorem region_lim {id : Nat} {ops : List Oper} {draw : Bool} {s s' : St} (h : region E (call E) g n id ops draw s = some s') : ∃ k, region E (callN E k) g n id ops draw s = some s' := by
  unfold region at h
  split at h
  case h_2 => simp at h
  rename_i fr hp ks hr
  obtain ⟨k, hk⟩ := runOps_lim hr
  exact ⟨k, by unfold region; simp only [hk, h]⟩

theorem execL_region {id : Nat} {ops : Array Oper} {draw : Bool} {s s' : St} (h : region E (call E) g n id ops.toList draw s = some s') : execL E g n m (.region id ops draw) s = some (.nrm, s') := by
  obtain ⟨k, hk⟩ := region_lim h
  exact execL_iff.2 ⟨k, by simp only [execN, execF, exec, hk]⟩
theorem execL_skip {s : St} : execL E g n m .skip s = some (.nrm, s) := execL_iff.2 ⟨0, rfl⟩
theorem execL_label {l : Nat} {s : St} : execL E g n m (.label l) s = some (.nrm, s) := execL_iff.2 ⟨0, rfl⟩
theorem execL_exit {i : Nat} {s : St} : execL E g n m (.exit i) s = some (.exit i, s) := execL_iff.2 ⟨0, rfl⟩
theorem execL_ret {s : St} : execL E g n m .ret s = some (.ret, s) := execL_iff.2 ⟨0, rfl⟩
theorem execL_seq {a b : Code} {s s1 : St} {r : Ex × St} (h : execL E g n m a s = some (.nrm, s1)) (h2 : execL E g n m b s1 = some r) : execL E g n m (.seq a b) s = some r := by
  obtain ⟨k1, h1⟩ := execL_iff.1 h
  obtain ⟨k2, h2⟩ := execL_iff.1 h2
  have h1 := execN_le (Nat.le_max_left k1 k2) h1
  have h2 := execN_le (Nat.le_max_right k1 k2) h2
  refine execL_iff.2 ⟨max k1 k2, ?_⟩
  simp only [execN, execF, exec] at h1 h2 ⊢
  simp only [h1, h2]
theorem execL_seq_out {a b : Code} {s s1 : St} {e : Ex} (h : execL E g n m a s = some (e, s1)) (he : e ≠ .nrm) : execL E g n m (.seq a b) s = some (e, s1) := by
  obtain ⟨k1, h1⟩ := execL_iff.1 h
  refine execL_iff.2 ⟨k1, ?_⟩
  simp only [execN, execF, exec] at h1 ⊢
  simp only [h1]
  cases e <;> first | rfl | exact absurd rfl he
theorem execL_cond {x : Operand} {a b : Code} {s : St} {t : Bool} {r : Ex × St} (ho : opd s.fr x = some (.c (.bool t))) (h : execL E g n m (if t then a else b) s = some r) : execL E g n m (.cond x a b) s = some r := by
  obtain ⟨k1, h1⟩ := execL_iff.1 h
  refine execL_iff.2 ⟨k1, ?_⟩
  simp only [execN, execF, exec, ho] at h1 ⊢
  cases t <;> simpa using h1
theorem execL_block {i : Nat} {b : Code} {s s1 : St} {e : Ex} (h : execL E g n m b s = some (e, s1)) : execL E g n m (.block i b) s = some (if e = .exit i then .nrm else e, s1) := by
  obtain ⟨k1, h1⟩ := execL_iff.1 h
  refine execL_iff.2 ⟨k1, ?_⟩
  simp only [execN, execF, exec] at h1 ⊢
  simp only [h1]
  cases e with
  | exit j =>
    by_cases hj : j = i
    · subst hj; simp
    · simp [hj]
  | _ => rfl
theorem execL_scope {b : Code} {s : St} {r : Ex × St} (h : execL E g n m b s = some r) : execL E g n m (.scope b) s = some r := by
  obtain ⟨k1, h1⟩ := execL_iff.1 h
  exact execL_iff.2 ⟨k1, h1⟩
theorem execL_loop {b : Code} {s s1 : St} {r : Ex × St} (hn : norm E g m b s = some s1) (h : loopL E g n m b s1 = some r) : execL E g n m (.loop b) s = some r := by
  obtain ⟨k, h1⟩ := loopL_iff.1 h
  refine execL_iff.2 ⟨k + 1, ?_⟩
  have h2 : loopN E g n m (k + 1) b s1 = some r := loopN_le (Nat.le_succ k) h1
  show iterN (k + 1) (goN E g m b (execN E g n m (k + 1) b)) s = some r
  unfold loopN at h1
  simp only [iterN, headed, hn]
  split at h1
  · rename_i s2 h3
    simp only [execN_le (Nat.le_succ k) h3]
    exact iterN_le (goN_le fun _ _ => execN_le (Nat.le_succ k)) (Nat.le_refl _) h1
  · rename_i hne
    rw [execN_le (Nat.le_succ k) h1]
    cases r with
    | mk e s1 => cases e <;> first | rfl | exact absurd h1 (hne _)
theorem loopL_step {b : Code} {s s2 s3 : St} {r : Ex × St} (h : execL E g n m b s = some (.nrm, s2)) (hn : norm E g m b s2 = some s3) (hr : loopL E g n m b s3 = some r) : loopL E g n m b s = some r := by
  obtain ⟨k1, h1⟩ := execL_iff.1 h
  obtain ⟨k2, h2⟩ := execL_iff.1 (execL_loop hn hr)
  have h1 := execN_le (Nat.le_max_left k1 k2) h1
  have h2 := execN_le (Nat.le_max_right k1 k2) h2
  refine loopL_iff.2 ⟨max k1 k2, ?_⟩
  unfold loopN
  simp only [h1]
  exact h2
theorem loopL_out {b : Code} {s s2 : St} {e : Ex} (h : execL E g n m b s = some (e, s2)) (he : e ≠ .nrm) : loopL E g n m b s = some (e, s2) := by
  obtain ⟨k1, h1⟩ := execL_iff.1 h
  refine loopL_iff.2 ⟨k1, ?_⟩
  unfold loopN
  simp only [h1]
  cases e <;> first | rfl | exact absurd rfl he

/-! ## loops over iterators -/
def rdN (E : Env) (g n k : Nat) (asn bd : Code) (m : Nat) (s : St) : Option (Ex × St) := match execN E g n m k asn s with
  | some (.nrm, s) => execN E g n m k bd s
  | _ => none
theorem rdN_le {k k' : Nat} (hk : k ≤ k') {asn bd : Code} {m : Nat} {s : St} {r : Ex × St} (h : rdN E g n k asn bd m s = some r) : rdN E g n k' asn bd m s = some r := by
  unfold rdN at h ⊢
  split at h
  · rename_i s1 h1
    simp only [execN_le hk h1]
    exact execN_le hk h
  · simp at h
noncomputable def rdL (E : Env) (g n : Nat) (asn bd : Code) (m : Nat) (s : St) : Option (Ex × St) := lim fun k => rdN E g n k asn bd m s
theorem rdL_iff {asn bd : Code} {m : Nat} {s : St} {r : Ex × St} : rdL E g n asn bd m s = some r ↔ ∃ k, rdN E g n k asn bd m s = some r := lim_iff fun _ _ _ hk h => rdN_le hk h
theorem roundsE_lim {ps : List Nat} {nm : St → Option St} {asn bd : Code} : ∀ {es : List (List V)} {s : St} {r : Ex × St × List (List V) × Bool}, roundsE n ps nm (rdL E g n asn bd) es s = some r → ∃ k, roundsE n ps nm (rdN E g n k asn bd) es s = some r
  | [], s, r, h => ⟨0, h⟩
  | e :: es, s, r, h => by
    simp only [roundsE] at h ⊢
    split at h
    case h_2 => simp at h
    rename_i fr hc hp
    split at h
    · rename_i s1 h1
      obtain ⟨k1, h1⟩ := rdL_iff.1 h1
      split at h
      case h_2 => simp at h
      rename_i s2 h2
      split at h
      case h_2 => simp at h
      rename_i h3
      obtain ⟨k2, h3⟩ := roundsE_lim h3
      refine ⟨max k1 k2, ?_⟩
      simp only [rdN_le (Nat.le_max_left k1 k2) h1, h2, roundsE_le (fun _ _ _ => rdN_le (Nat.le_max_right k1 k2)) h3]
      exact h
    · rename_i ex s1 hne h1
      obtain ⟨k1, h1⟩ := rdL_iff.1 h1
      refine ⟨k1, ?_⟩
      simp only [h1]
      cases ex with
      | nrm => exact absurd rfl hne
      | _ => exact h
    · simp at h
noncomputable def rangeL (E : Env) (g n m : Nat) (f : Operand) (ps : List Nat) (asn bd : Code) (s : St) : Option (Ex × St) := lim fun k => rangeG E (callN E k) g n m f ps bd (rdN E g n k asn bd) s
theorem rangeL_iff {f : Operand} {ps : List Nat} {asn bd : Code} {s : St} {r : Ex × St} : rangeL E g n m f ps asn bd s = some r ↔ ∃ k, rangeG E (callN E k) g n m f ps bd (rdN E g n k asn bd) s = some r :=
  lim_iff (F := fun k => rangeG E (callN E k) g n m f ps bd (rdN E g n k asn bd) s) fun _ _ _ hk h => rangeG_le (callN_le hk) (fun _ _ _ => rdN_le hk) h
theorem execL_range {f : Operand} {ps : Array Nat} {asn bd : Code} {s s1 : St} {r : Ex × St} (hn : norm E g m bd s = some s1) (h : rangeL E g n m f ps.toList asn bd s1 = some r) : execL E g n m (.rangeFunc f ps asn bd) s = some r := by
  obtain ⟨k, h⟩ := rangeL_iff.1 h
  refine execL_iff.2 ⟨k, ?_⟩
  show rangeF E (callN E k) g n m f ps.toList bd (rdN E g n k asn bd) s = some r
  unfold rangeF
  simp only [hn, h]
/-- From its parts. -/
theorem rangeL_of {f : Operand} {ps : List Nat} {asn bd : Code} {s s' : St} {gi : FuncId} {caps args vals : List V} {h0 h1 : Hp} {ids : List Nat} {es u : List (List V)} {ex : Ex} {t : Bool} (hf : opd s.fr f = some (.fn gi caps)) (hi : iterOf E gi caps s.hp = some (args, h0, ids)) (hs : E.seq gi args h0 = some es)
    (hr : roundsE n ps (norm E g m bd) (rdL E g n asn bd) es ⟨s.fr, goneAt ids s.hp⟩ = some (ex, s', u, t)) (hc : call E gi args (h0 ++ [.yo u t]) = some (vals, h1)) (hsp : spent h1 ids.length = true) : rangeL E g n m f ps asn bd s = some (ex, s') := by
  obtain ⟨k1, hr⟩ := roundsE_lim hr
  obtain ⟨k2, hc⟩ := call_iff.1 hc
  refine rangeL_iff.2 ⟨max k1 k2, ?_⟩
  unfold rangeG
  simp only [hf, hi, hs, roundsE_le (fun _ _ _ => rdN_le (Nat.le_max_left k1 k2)) hr, callN_le (Nat.le_max_right k1 k2) _ _ _ _ hc, hsp, if_true]
/-- What is wanted of an iterator that would hand over es. -/
def Want (es u : List (List V)) (t : Bool) : Prop := (t = false ∧ u = es) ∨ (t = true ∧ u ≠ [] ∧ u <+: es)
theorem roundsE_want {ps : List Nat} {nm : St → Option St} {d : Nat → St → Option (Ex × St)} : ∀ {es : List (List V)} {s s' : St} {ex : Ex} {u : List (List V)} {t : Bool}, roundsE n ps nm d es s = some (ex, s', u, t) → Want es u t
  | [], s, s', ex, u, t, h => by
    simp only [roundsE, Option.some.injEq, Prod.mk.injEq] at h
    exact .inl ⟨h.2.2.2.symm, h.2.2.1.symm⟩
  | e :: es, s, s', ex, u, t, h => by
    simp only [roundsE] at h
    split at h
    case h_2 => simp at h
    split at h
    · split at h
      case h_2 => simp at h
      split at h <;> simp only [Option.some.injEq, Prod.mk.injEq, reduceCtorEq] at h
      rename_i h3
      obtain ⟨rfl, rfl, rfl, rfl⟩ := h
      rcases roundsE_want h3 with ⟨h1, rfl⟩ | ⟨h1, h2, h4⟩
      · exact .inl ⟨h1, rfl⟩
      · exact .inr ⟨h1, by simp, List.prefix_cons_inj e |>.2 h4⟩
    · simp only [Option.some.injEq, Prod.mk.injEq] at h
      obtain ⟨rfl, rfl, rfl, rfl⟩ := h
      exact .inr ⟨rfl, by simp, ⟨es, rfl⟩⟩
    · simp at h

/-- A function of the program. -/
theorem call_fun {fn : Func} {code : Code} {args vals : List V} {hp : Hp} {s : St} {e : Ex} {r : List V × Hp} (hx : E.ext g = none) (hB : E.B g = some fn) (hc : fn.body = some code) (hs : nilArg (E.split g) args = none)
    (h : execL E g (args.length + (fn.ntmps - args.length)) hp.length code ⟨frame0 0 args, hp⟩ = some (e, s)) (he : e = .nrm ∨ e = .ret) (hv : resW E g s fn.results.toList = some vals) (hl : leave (E.frz g) hp.length vals s.hp = some r) : call E g args hp = some r := by
  obtain ⟨k, hk⟩ := execL_iff.1 h
  refine call_iff.2 ⟨k + 1, ?_⟩
  simp only [callN, hx, hB, hs, runF_eq]
  unfold runG
  simp only [hc, hk]
  rcases he with rfl | rfl <;> simp only [hv, hl]
theorem call_split {fn : Func} {args a1 a2 : List V} {hp : Hp} {r : List V × Hp} {k : Nat} (hx : E.ext g = none) (hB : E.B g = some fn) (hs : nilArg (E.split g) args = some (a1, a2))
    (h1 : runF E (callN E k) k g fn a1 hp = some r) (h2 : runF E (callN E k) k g fn a2 hp = some r) (hsame : sameR (some r) (some r) = true) : call E g args hp = some r := by
  refine call_iff.2 ⟨k + 1, ?_⟩
  simp only [callN, hx, hB, hs, h1, h2, both, hsame, if_true]
theorem call_ext {f : List V → Hp → Option (List V × Hp)} {args : List V} {hp : Hp} (hx : E.ext g = some f) {r : List V × Hp} (h : f args hp = some r) : call E g args hp = some r :=
  call_iff.2 ⟨1, by simp only [callN, hx, h]⟩
end
end Go.Ev
