/-
  EV, part J: a region may draw the order of its operations: what the text's order gives, every order gives.
-/
import Derived.Test.YtkdinelcmanfcaaEvI
set_option linter.unusedSimpArgs false
set_option linter.unusedVariables false
namespace Go.Ev

def Feq (f h : Fr) : Prop := ∀ t, get f t = get h t
theorem Feq.refl (f : Fr) : Feq f f := fun _ => rfl
theorem Feq.symm {f h : Fr} (x : Feq f h) : Feq h f := fun t => (x t).symm
theorem Feq.trans {f h k : Fr} (x : Feq f h) (y : Feq h k) : Feq f k := fun t => (x t).trans (y t)

theorem put_feq {n : Nat} {d : Option Nat} {v : V} {f h f' : Fr} (e : Feq f h) (hp : put n d v f = some f') : ∃ h', put n d v h = some h' ∧ Feq f' h' := by
  unfold put at hp ⊢
  split at hp
  · split at hp <;> simp only [Option.some.injEq, reduceCtorEq] at hp
    rename_i ht
    subst hp
    refine ⟨_, if_pos ht, fun t => ?_⟩
    simp only [get]
    split
    · rfl
    · exact e t
  · simp only [Option.some.injEq] at hp
    subst hp
    exact ⟨_, rfl, e⟩

theorem put_get {n : Nat} {d : Option Nat} {v : V} {f f' : Fr} (hp : put n d v f = some f') {t : Nat} (h : d ≠ some t) : get f' t = get f t := by
  unfold put at hp
  split at hp
  · split at hp <;> simp only [Option.some.injEq, reduceCtorEq] at hp
    subst hp
    simp only [get]
    rw [if_neg (fun e => h (by rw [e]))]
  · simp only [Option.some.injEq] at hp
    subst hp; rfl

theorem get_frzF {hp : Hp} {p : Nat → Bool} : ∀ {fr : Fr} {t : Nat}, get (frzF hp p fr) t = (get fr t).map (V.frz hp p)
  | [], t => rfl
  | (k, v) :: r, t => by
    simp only [frzF, get]
    split
    · rfl
    · exact get_frzF

/-! ## what an operation looks at -/
theorem opdL_congr {f h : Fr} : ∀ {l : List Operand}, (∀ x ∈ l, opd f x = opd h x) → opdL f l = opdL h l
  | [], _ => rfl
  | x :: r, e => by
    simp only [opdL, e x (by simp), opdL_congr (l := r) fun y hy => e y (by simp [hy])]
theorem opdP_congr {f h : Fr} : ∀ {l : List (Nat × Operand)}, (∀ x ∈ l.map (·.2), opd f x = opd h x) → opdP f l = opdP h l
  | [], _ => rfl
  | (i, x) :: r, e => by
    simp only [opdP, e x (by simp), opdP_congr (l := r) fun y hy => e y (by simp at hy ⊢; exact .inr hy)]
theorem bnd_congr {f h : Fr} {x : Option Operand} (e : ∀ y ∈ x.toArray, opd f y = opd h y) : bnd f x = bnd h x := by
  cases x with
  | none => rfl
  | some y => simp only [bnd, e y (by simp)]

theorem op0_congr {T : TypeId → Option Ty} {own : Nat → Bool} {f h : Fr} {hp : Hp} {o : Oper} (e : ∀ x ∈ o.op.operands, opd f x = opd h x) : op0 T own f hp o = op0 T own h hp o := by
  obtain ⟨dst, op, type, pos, after, guard⟩ := o
  cases op <;> simp only [Op.operands] at e <;> try rfl
  case move x => simp only [op0, e x (by simp)]
  case assign x => simp only [op0, e x (by simp)]
  case pick c a b => simp only [op0, e c (by simp), e a (by simp), e b (by simp)]
  case box t x => simp only [op0, e x (by simp)]
  case build t ps => simp only [op0, opdP_congr (l := ps.toList) fun x hx => e x (by simpa using hx)]
  case buildSlice t n ps => simp only [op0, opdP_congr (l := ps.toList) fun x hx => e x (by simpa using hx)]
  case load t a => simp only [op0, e a (by simp)]
  case store t a x => simp only [op0, e a (by simp), e x (by simp)]
  case nilCheck x => simp only [op0, e x (by simp)]
  case binOp op t x y t' => simp only [op0, e x (by simp), e y (by simp)]
  case unOp op t x => simp only [op0, e x (by simp)]
  case convert s d x => simp only [op0, e x (by simp)]
  case makeFunc c first caps =>
    cases c <;> simp only [op0]
    rw [opdL_congr (l := caps.toList) fun x hx => e x (by simp at hx; simp [hx])]
  case makeSlice t n c => simp only [op0, e n (by simp), e c (by simp)]
  case slice t x lo hi mx =>
    simp only [op0, e x (by simp), bnd_congr (x := lo) fun y hy => e y (by simp at hy; simp [hy]), bnd_congr (x := hi) fun y hy => e y (by simp at hy; simp [hy]), bnd_congr (x := mx) fun y hy => e y (by simp at hy; simp [hy])]
  case fieldAddr s x i => simp only [op0, e x (by simp)]
  case field s x i => simp only [op0, e x (by simp)]
  case indexAddr t x i => simp only [op0, e x (by simp), e i (by simp)]
  case index t x i => simp only [op0, e x (by simp), e i (by simp)]
  case extract x i => simp only [op0, e x (by simp)]
  case call c =>
    obtain ⟨callee, args, ts⟩ := c
    cases callee <;> simp only [op0]
    simp only [Call.operands] at e
    rw [opdL_congr (l := args.toList) fun x hx => e x (by simp at hx; simp [hx])]

/-! ## classes -/
def V.top : V → List Nat
  | .buf i _ _ _ => [i]
  | .ptr i _ _ _ => [i]
  | _ => []

def Fine (S : List Nat) (f : Hp → R0) : Prop := ∀ hp v hp' k, f hp = some (v, hp', k) →
  (k = 0 → hp' = hp ∧ ∀ hp2, f hp2 = some (v, hp2, 0)) ∧ (k = 1 → hp' = hp ∧ ∀ hp2 : Hp, (∀ i ∈ S, hp[i]? ≠ none → hp2[i]? = hp[i]?) → f hp2 = some (v, hp2, 1)) ∧ (k = 2 → ∃ X, hp' = hp ++ X)

theorem fine_none {S : List Nat} : Fine S fun _ => none := fun hp v hp' k h => by simp at h
theorem fine_pure {S : List Nat} {v : V} : Fine S fun hp => some (v, hp, 0) := fun hp v' hp' k h => by
  simp only [Option.some.injEq, Prod.mk.injEq] at h
  obtain ⟨rfl, rfl, rfl⟩ := h
  exact ⟨fun _ => ⟨rfl, fun _ => rfl⟩, fun h => by simp at h, fun h => by simp at h⟩
theorem fine_pureR {S : List Nat} {x : Option V} : Fine S fun hp => pureR hp x := by
  cases x with
  | none => exact fine_none
  | some v => exact fine_pure
theorem fine_make {S : List Nat} {v : Hp → V} {X : Hp → Hp} : Fine S fun hp => some (v hp, hp ++ X hp, 2) := fun hp v' hp' k h => by
  simp only [Option.some.injEq, Prod.mk.injEq] at h
  obtain ⟨rfl, rfl, rfl⟩ := h
  exact ⟨fun h => by simp at h, fun h => by simp at h, fun _ => ⟨_, rfl⟩⟩
theorem fine_of {S : List Nat} {f : Hp → R0} (h : ∀ hp v hp' k, f hp = some (v, hp', k) → (k = 1 ∧ hp' = hp ∧ ∀ hp2 : Hp, (∀ i ∈ S, hp[i]? ≠ none → hp2[i]? = hp[i]?) → f hp2 = some (v, hp2, 1)) ∨ k = 3) : Fine S f := fun hp v hp' k hf => by
  rcases h hp v hp' k hf with ⟨rfl, rfl, h1⟩ | rfl
  · exact ⟨fun h => by simp at h, fun _ => ⟨rfl, h1⟩, fun h => by simp at h⟩
  · exact ⟨fun h => by simp at h, fun h => by simp at h, fun h => by simp at h⟩

theorem fine_nilRow {S : List Nat} {T : TypeId → Option Ty} {t : TypeId} : Fine S fun hp => nilRow T hp t := by
  unfold nilRow
  split
  · exact fine_none
  · split
    · split
      · exact fine_make
      · exact fine_none
    · exact fine_none
theorem fine_moveV {S : List Nat} {T : TypeId → Option Ty} {ow : Bool} {t : TypeId} {v : V} : Fine S fun hp => moveV T ow hp t v := by
  unfold moveV
  split
  · split
    · exact fine_nilRow
    · split
      · split
        · exact fine_pure
        · exact fine_pure
      · exact fine_pure
  · exact fine_pure
theorem fine_allocV {S : List Nat} {T : TypeId → Option Ty} {ow : Bool} {t : TypeId} : Fine S fun hp => allocV T ow hp t := by
  unfold allocV
  split
  · exact fine_none
  · split
    · split
      · exact fine_make
      · exact fine_none
    · split
      · split
        · split
          · simp only [List.append_assoc]; exact fine_make
          · exact fine_none
        · exact fine_none
      · exact fine_make
    · exact fine_make
theorem fine_boxV {S : List Nat} {v : V} : Fine S fun hp => boxV hp v := by
  unfold boxV
  split
  · exact fine_make
  · exact fine_none
theorem fine_buildV {S : List Nat} {T : TypeId → Option Ty} {t : TypeId} {l : List (Nat × V)} : Fine S fun hp => buildV T hp t l := by
  unfold buildV
  split
  · exact fine_none
  · split
    · split
      · exact fine_pure
      · exact fine_none
    · exact fine_none
theorem fine_laid {S : List Nat} {ow : Bool} {sz n : Nat} {l : List (List C)} : Fine S fun hp => laid ow hp sz n l := by
  unfold laid
  split
  · exact fine_make
  · exact fine_pure
theorem fine_buildSliceV {S : List Nat} {T : TypeId → Option Ty} {ow : Bool} {t : TypeId} {n : Nat} {l : List (Nat × V)} : Fine S fun hp => buildSliceV T ow hp t n l := by
  unfold buildSliceV
  repeat' first | exact fine_none | exact fine_laid | split
theorem fine_nilCheckV {S : List Nat} {v : V} : Fine S fun hp => nilCheckV hp v := by
  unfold nilCheckV
  split
  · exact fine_pure
  · exact fine_pure
  · exact fine_none
theorem fine_makeSliceV {S : List Nat} {T : TypeId → Option Ty} {t : TypeId} {n c : V} : Fine S fun hp => makeSliceV T hp t n c := by
  unfold makeSliceV
  repeat' first | exact fine_none | exact fine_make | split
theorem fine_fieldAddrV {S : List Nat} {T : TypeId → Option Ty} {t : TypeId} {v : V} {f : Nat} : Fine S fun hp => fieldAddrV T hp t v f := by
  unfold fieldAddrV
  repeat' first | exact fine_none | exact fine_pure | split
theorem fine_fieldV {S : List Nat} {T : TypeId → Option Ty} {t : TypeId} {v : V} {f : Nat} : Fine S fun hp => fieldV T hp t v f := by
  unfold fieldV
  repeat' first | exact fine_none | exact fine_pureR | split
theorem fine_indexV {S : List Nat} {T : TypeId → Option Ty} {t : TypeId} {v i : V} : Fine S fun hp => indexV T hp t v i := by
  unfold indexV
  repeat' first | exact fine_none | exact fine_pure | exact fine_pureR | split
theorem fine_storeR {S : List Nat} {T : TypeId → Option Ty} {t : TypeId} {v u : V} : Fine S fun hp => storeR T hp t v u := by
  refine fine_of fun hp x hp' k h => .inr ?_
  unfold storeR at h
  split at h
  · simp at h
  · split at h <;> simp only [Option.some.injEq, Prod.mk.injEq, reduceCtorEq] at h
    exact h.2.2.symm

theorem loadV_agree {hp hp2 : Hp} {y : Ty} {v x : V} (h : ∀ i ∈ v.top, hp[i]? ≠ none → hp2[i]? = hp[i]?) (hx : loadV hp y v = some x) : loadV hp2 y v = some x := by
  rw [← hx]
  cases v <;> try rfl
  rename_i i ep el o
  have hne : hp[i]? ≠ none := fun hn => by simp [loadV, hn] at hx
  simp only [loadV, h i (by simp [V.top]) hne]
theorem fine_loadR {T : TypeId → Option Ty} {t : TypeId} {v : V} : Fine v.top fun hp => loadR T hp t v := by
  intro hp x hp' k h
  simp only [loadR] at h ⊢
  split at h
  · simp at h
  · rename_i y hy
    split at h <;> simp only [Option.some.injEq, Prod.mk.injEq, reduceCtorEq] at h
    rename_i x' hx
    obtain ⟨rfl, rfl, rfl⟩ := h
    refine ⟨fun hk => ⟨rfl, fun hp2 => ?_⟩, fun hk => ⟨rfl, fun hp2 hs => ?_⟩, fun hk => ?_⟩
    · have : loadV hp2 y v = loadV hp y v := by cases v <;> first | rfl | simp at hk
      rw [this, hx]
      simp only [hk]
    · rw [loadV_agree hs hx]
      simp only [hk]
    · split at hk <;> simp at hk

theorem lenV_agree {T : TypeId → Option Ty} {hp hp2 : Hp} {t : TypeId} {v : V} {x : Nat} (h : ∀ i ∈ v.top, hp[i]? ≠ none → hp2[i]? = hp[i]?) (hx : lenV T hp t v = some x) : lenV T hp2 t v = some x := by
  rw [← hx]
  unfold lenV at hx ⊢
  split
  · rfl
  · rename_i y hy
    simp only [hy] at hx
    split <;> try rfl
    rename_i i ep off n hk
    have hne : hp[i]? ≠ none := fun hn => by simp [hk, hn] at hx
    simp only [h i (by simp [V.top]) hne]

theorem fine_sliceV {T : TypeId → Option Ty} {t : TypeId} {v : V} {lo hi mx : Option Nat} : Fine v.top fun hp => sliceV T hp t v lo hi mx := by
  unfold sliceV
  split
  · exact fine_none
  · rename_i y hy
    split
    · repeat' first | exact fine_none | exact fine_pure | split
    · repeat' first | exact fine_none | exact fine_pure | split
    · rename_i e i ep off len hk
      refine fine_of fun hp x hp' k h => .inl ?_
      split at h
      case h_2 => simp at h
      rename_i ye z ep' xs hye hi'
      split at h <;> simp only [Option.some.injEq, Prod.mk.injEq, reduceCtorEq] at h
      rename_i hc
      obtain ⟨rfl, rfl, rfl⟩ := h
      refine ⟨rfl, rfl, fun hp2 hs => ?_⟩
      have := hs i (by simp [V.top]) (by rw [hi']; simp)
      rw [hi'] at this
      simp only [this, hye, if_pos hc]
    · exact fine_none

theorem fine_indexAddrV {T : TypeId → Option Ty} {t : TypeId} {v ix : V} : Fine v.top fun hp => indexAddrV T hp t v ix := by
  unfold indexAddrV
  split
  case h_2 => exact fine_none
  split
  case isFalse => exact fine_none
  split
  · exact fine_none
  · split
    · split
      · exact fine_none
      · split
        · split
          · split
            · exact fine_pure
            · exact fine_none
          · exact fine_none
        · rename_i i ep off len
          refine fine_of fun hp x hp' k h => .inl ?_
          split at h
          case h_2 => simp at h
          rename_i z ep' xs hi'
          split at h <;> simp only [Option.some.injEq, Prod.mk.injEq, reduceCtorEq] at h
          rename_i hc
          obtain ⟨rfl, rfl, rfl⟩ := h
          refine ⟨rfl, rfl, fun hp2 hs => ?_⟩
          have := hs i (by simp [V.top]) (by rw [hi']; simp)
          rw [hi'] at this
          simp only [this, if_pos hc]
        · exact fine_none
    · split
      · exact fine_none
      · split
        case isFalse => exact fine_none
        split
        case h_2 => exact fine_none
        rename_i i ep el o
        refine fine_of fun hp x hp' k h => .inl ?_
        split at h
        · rename_i z ep' xs hi'
          split at h <;> simp only [Option.some.injEq, Prod.mk.injEq, reduceCtorEq] at h
          rename_i hc
          obtain ⟨rfl, rfl, rfl⟩ := h
          refine ⟨rfl, rfl, fun hp2 hs => ?_⟩
          have := hs i (by simp [V.top]) (by rw [hi']; simp)
          rw [hi'] at this
          simp only [this, if_pos hc]
        · rename_i cs hi'
          simp only [Option.some.injEq, Prod.mk.injEq] at h
          obtain ⟨rfl, rfl, rfl⟩ := h
          refine ⟨rfl, rfl, fun hp2 hs => ?_⟩
          have := hs i (by simp [V.top]) (by rw [hi']; simp)
          rw [hi'] at this
          simp only [this]
        · simp at h
    · exact fine_none

theorem fine_appB {S : List Nat} {T : TypeId → Option Ty} {t tx : TypeId} {d s : V} : Fine S fun hp => appB T hp t tx d s := by
  have key : ∀ {sz : Nat}, Fine S fun hp => appendV sz hp d s := by
    intro sz hp v hp' k h
    change appendV sz hp d s = _ at h
    unfold appendV at h
    split at h
    · simp at h
    · split at h
      · split at h <;> simp only [Option.some.injEq, Prod.mk.injEq, reduceCtorEq] at h
        obtain ⟨rfl, rfl, rfl⟩ := h
        exact ⟨fun h => by simp at h, fun h => by simp at h, fun _ => ⟨_, rfl⟩⟩
      · split at h
        · split at h <;> simp only [Option.some.injEq, Prod.mk.injEq, reduceCtorEq] at h
          obtain ⟨rfl, rfl, rfl⟩ := h
          exact ⟨fun h => by simp at h, fun h => by simp at h, fun h => by simp at h⟩
        · simp at h
      · simp at h
  unfold appB
  split
  · split
    · split
      · split
        · exact key
        · exact fine_none
      · exact fine_none
    · exact fine_none
  · exact fine_none

theorem fine_bltn {T : TypeId → Option Ty} {b : Builtin} {ts : List TypeId} {xs : List V} {S : List Nat} (hS : ∀ x ∈ xs, ∀ i ∈ x.top, i ∈ S) : Fine S fun hp => bltn T hp b ts xs := by
  unfold bltn
  split
  · split
    · rename_i t x
      intro hp v hp' k h
      simp only at h ⊢
      split at h <;> simp only [Option.some.injEq, Prod.mk.injEq, reduceCtorEq] at h
      rename_i n hn
      obtain ⟨rfl, rfl, rfl⟩ := h
      have hs' : ∀ hp2 : Hp, (∀ i ∈ S, hp[i]? ≠ none → hp2[i]? = hp[i]?) → lenV T hp2 t x = some n := fun hp2 hs =>
        lenV_agree (fun i hi => hs i (hS x (by simp) i hi)) hn
      refine ⟨fun hk => ⟨rfl, fun hp2 => ?_⟩, fun hk => ⟨rfl, fun hp2 hs => ?_⟩, fun hk => ?_⟩
      · have : lenV T hp2 t x = some n := by
          cases x with
          | buf i ep off len => simp at hk
          | ptr i ep el o =>
            rw [← hn]
            unfold lenV
            split
            · rfl
            · split <;> first | rfl | (rename_i h; simp at h)
          | _ => exact lenV_agree (fun i hi => absurd hi (by simp [V.top])) hn
        rw [this]
        simp only [hk]
      · rw [hs' hp2 hs]
        simp only [hk]
      · split at hk <;> simp at hk
    · exact fine_none
  · split
    · exact fine_appB
    · exact fine_none
  · split
    · split
      · exact fine_pure
      · exact fine_none
    · exact fine_none
  · split
    · split
      · exact fine_pure
      · exact fine_none
    · exact fine_none
  · exact fine_none

theorem opdL_mem {f : Fr} : ∀ {l : List Operand} {vs : List V}, opdL f l = some vs → ∀ v ∈ vs, ∃ x ∈ l, opd f x = some v
  | [], vs, h, v, hv => by simp only [opdL, Option.some.injEq] at h; subst h; simp at hv
  | x :: r, vs, h, v, hv => by
    simp only [opdL] at h
    split at h <;> simp only [Option.some.injEq, reduceCtorEq] at h
    rename_i y l hy hl
    subst h
    rcases List.mem_cons.1 hv with rfl | hv
    · exact ⟨x, by simp, hy⟩
    · obtain ⟨z, hz, e⟩ := opdL_mem hl v hv
      exact ⟨z, by simp [hz], e⟩

theorem fine_mono {S S' : List Nat} {f : Hp → R0} (hs : ∀ i ∈ S, i ∈ S') (h : Fine S f) : Fine S' f := fun hp v hp' k hf => by
  obtain ⟨h0, h1, h2⟩ := h hp v hp' k hf
  exact ⟨h0, fun hk => ⟨(h1 hk).1, fun hp2 hh => (h1 hk).2 hp2 fun i hi => hh i (hs i hi)⟩, h2⟩

theorem fine_op0 {T : TypeId → Option Ty} {own : Nat → Bool} {fr : Fr} {o : Oper} {S : List Nat} (hS : ∀ x ∈ o.op.operands, ∀ v, opd fr x = some v → ∀ i ∈ v.top, i ∈ S) : Fine S fun hp => op0 T own fr hp o := by
  obtain ⟨dst, op, type, pos, after, guard⟩ := o
  cases op <;> simp only [Op.operands] at hS <;> simp only [op0] <;> try exact fine_none
  case move x => split <;> first | exact fine_moveV | exact fine_none
  case assign x => split <;> first | exact fine_moveV | exact fine_none
  case pick c a b => split <;> first | exact fine_pureR | exact fine_none
  case box t x => split <;> first | exact fine_boxV | exact fine_none
  case alloc t => exact fine_allocV
  case build t ps => split <;> first | exact fine_buildV | exact fine_none
  case buildSlice t n ps => split <;> first | exact fine_buildSliceV | exact fine_none
  case load t a =>
    split
    · rename_i v hv; exact fine_mono (hS a (by simp) v hv) fine_loadR
    · exact fine_none
  case store t a x => split <;> first | exact fine_storeR | exact fine_none
  case nilCheck x => split <;> first | exact fine_nilCheckV | exact fine_none
  case binOp op t x y t' => split <;> first | exact fine_pureR | exact fine_none
  case unOp op t x => split <;> first | exact fine_pureR | exact fine_none
  case convert s d x => split <;> first | exact fine_pureR | exact fine_none
  case makeFunc c first caps => cases c <;> simp only [op0] <;> repeat' first | exact fine_none | exact fine_pure | split
  case makeSlice t n c => split <;> first | exact fine_makeSliceV | exact fine_none
  case slice t x lo hi mx =>
    split
    · rename_i v lo hi mx hv h1 h2 h3
      exact fine_mono (hS x (by simp) v hv) fine_sliceV
    · exact fine_none
  case fieldAddr s x i => split <;> first | exact fine_fieldAddrV | exact fine_none
  case field s x i => split <;> first | exact fine_fieldV | exact fine_none
  case indexAddr t x i =>
    split
    · rename_i v i hv hi'
      exact fine_mono (hS x (by simp) v hv) fine_indexAddrV
    · exact fine_none
  case index t x i => split <;> first | exact fine_indexV | exact fine_none
  case extract x i => split <;> first | exact fine_pureR | exact fine_none
  case call c =>
    obtain ⟨callee, args, ts⟩ := c
    cases callee <;> simp only [op0] <;> try exact fine_none
    split
    · rename_i l hl
      refine fine_bltn fun v hv i hi => ?_
      obtain ⟨x, hx, hv'⟩ := opdL_mem hl v hv
      exact hS x (by simp only [Call.operands]; simp at hx; simp [hx]) v hv' i hi
    · exact fine_none

/-! ## calls -/
theorem reach_seen {hp : Hp} : ∀ {k : Nat} {todo seen : List Nat}, seen.length ≤ (reach hp k todo seen).length
  | 0, todo, seen => by simp [reach]
  | k + 1, [], seen => by simp [reach]
  | k + 1, i :: todo, seen => by
    simp only [reach]
    split
    · exact reach_seen
    · exact Nat.le_trans (by simp) reach_seen
theorem reach_nil {hp : Hp} {k : Nat} {l : List Nat} (h : reach hp (k + 1) l [] = []) : l = [] := by
  cases l with
  | nil => rfl
  | cons i r =>
    have : ∀ td, reach hp k td [i] ≠ [] := fun td he => by
      have := reach_seen (hp := hp) (k := k) (todo := td) (seen := [i])
      rw [he] at this
      simp at this
    simp only [reach, List.contains_nil, Bool.false_eq_true, if_false] at h
    exact absurd h (this _)
theorem reach_none {hp : Hp} : ∀ {k : Nat}, reach hp k [] [] = []
  | 0 => rfl
  | _ + 1 => rfl

mutual
theorem ren_none {ρ : Nat → Option Nat} : ∀ {v : V}, v.ids = [] → v.ren ρ = v
  | .buf .., h => by simp [V.ids] at h
  | .ptr .., h => by simp [V.ids] at h
  | .fn f caps, h => by simp only [V.ids] at h; simp only [V.ren, renL_none h]
  | .agg xs, h => by simp only [V.ids] at h; simp only [V.ren, renL_none h]
  | .tup xs, h => by simp only [V.ids] at h; simp only [V.ren, renL_none h]
  | .junk, _ => rfl
  | .undef, _ => rfl
  | .c _, _ => rfl
  | .fp _, _ => rfl
theorem renL_none {ρ : Nat → Option Nat} : ∀ {l : List V}, idsL l = [] → renL ρ l = l
  | [], _ => rfl
  | v :: r, h => by
    simp only [idsL, List.append_eq_nil_iff] at h
    simp only [renL, ren_none h.1, renL_none h.2]
end

theorem xcall_cls {byref : Nat → Bool} {cf : CF} {g : FuncId} {args vals : List V} {fr fr' : Fr} {hp hp' : Hp} {k : Nat} (h : xcall byref cf g args fr hp = some (vals, fr', hp', k)) :
    ∃ tr : Fr → Fr, (∀ fr2, xcall byref cf g args fr2 hp = some (vals, tr fr2, hp', k)) ∧ fr' = tr fr ∧ (k ≠ 4 → ∀ f, tr f = f) ∧ (∀ f f2, Feq f f2 → Feq (tr f) (tr f2)) ∧
      (k = 0 → hp' = hp ∧ ∀ hp2 fr2, xcall byref cf g args fr2 hp2 = some (vals, fr2, hp2, 0)) ∧ k ≠ 1 ∧ (k = 2 → ∃ X, hp' = hp ++ X) := by
  unfold xcall at h ⊢
  generalize hS : snapIds byref 0 args = S at h ⊢
  cases S with
  | nil =>
    simp only [List.isEmpty_nil, if_true] at h ⊢
    split at h
    case h_1 => simp at h
    rename_i h0 ht
    split at h
    case isFalse => simp at h
    rename_i hd
    split at h
    case h_1 => simp at h
    rename_i vals0 h1 hcf
    have alone : ∀ hp2 : Hp, reach hp (2 * hp.length + 40) (idsL args) [] = [] → reach hp2 (2 * hp2.length + 40) (idsL args) [] = [] := fun hp2 he => by
      rw [reach_nil he]; exact reach_none
    split at h
    · rename_i hc
      simp only [Option.some.injEq, Prod.mk.injEq] at h
      obtain ⟨rfl, rfl, rfl, rfl⟩ := h
      refine ⟨id, fun fr2 => by simp only [ht, hcf, if_pos hc, if_true, id, hd], rfl, fun _ _ => rfl, fun _ _ e => e, fun _ => ⟨rfl, fun hp2 fr2 => ?_⟩, by simp, by simp⟩
      have he : reach hp (2 * hp.length + 40) (idsL args) [] = [] := by
        simp only [Bool.and_eq_true, List.isEmpty_iff] at hc
        exact hc.1.1
      rw [he] at ht hcf hc
      simp only [take, Option.some.injEq] at ht
      subst ht
      simp only [alone hp2 he, take, distinct, if_true, hcf, if_pos hc]
    · rename_i hc
      split at h
      case isFalse => simp at h
      rename_i hlen
      simp only [Option.some.injEq, Prod.mk.injEq] at h
      obtain ⟨rfl, rfl, rfl, rfl⟩ := h
      refine ⟨id, fun fr2 => by simp only [ht, hd, hcf, if_neg hc, if_pos hlen, if_true, id], rfl, fun _ _ => rfl, fun _ _ e => e, fun hk => ?_, ?_, fun hk => ?_⟩
      · split at hk
        case isFalse => simp at hk
        rename_i hids
        simp only [List.isEmpty_iff] at hids
        split at hk
        case isFalse => simp at hk
        rename_i h1e
        simp only [Bool.and_eq_true, List.isEmpty_iff] at h1e
        obtain ⟨rfl, hvi⟩ := h1e
        rw [hids] at ht hcf hc ⊢
        simp only [take, Option.some.injEq] at ht
        subst ht
        refine ⟨by simp [setAll, renH], fun hp2 fr2 => ?_⟩
        simp only [alone hp2 hids, take, distinct, if_true, hcf, if_neg hc, renL_none hvi]
        simp [setAll, renH, hvi]
      · split
        · split <;> simp
        · simp
      · split at hk
        case isFalse => simp at hk
        rename_i hids
        simp only [List.isEmpty_iff] at hids
        rw [hids]
        exact ⟨_, rfl⟩
  | cons s S =>
    simp only [List.isEmpty_cons, Bool.false_eq_true, if_false] at h ⊢
    split at h
    case h_1 => simp at h
    rename_i h0 ht
    split at h
    case isFalse => simp at h
    rename_i hd
    split at h
    case h_1 => simp at h
    rename_i vals0 h1 hcf
    split at h
    · rename_i hc
      simp only [Option.some.injEq, Prod.mk.injEq] at h
      obtain ⟨rfl, rfl, rfl, rfl⟩ := h
      exact ⟨id, fun fr2 => by simp only [ht, hd, hcf, if_pos hc, if_true, id], rfl, fun _ _ => rfl, fun _ _ e => e, by simp, by simp, by simp⟩
    · rename_i hc
      split at h
      case isFalse => simp at h
      rename_i hlen
      simp only [Option.some.injEq, Prod.mk.injEq] at h
      obtain ⟨rfl, rfl, rfl, rfl⟩ := h
      refine ⟨frzF hp fun i => (s :: S).contains i, fun fr2 => by simp only [ht, hd, hcf, if_neg hc, if_pos hlen, if_true], rfl, by simp, fun f f2 e t => ?_, by simp, by simp, by simp⟩
      rw [get_frzF, get_frzF, e t]

/-! ## one step -/
section
variable {E : Env} {cf : CF} {g : FuncId} {ops : List Oper} {n : Nat}

def stepV (E : Env) (cf : CF) (g : FuncId) (ops : List Oper) (fr : Fr) (hp : Hp) (o : Oper) : Option (V × Fr × Hp × Nat) :=
  match wantedV ops fr o with
  | none => none
  | some false => some (.undef, fr, hp, 0)
  | some true => opx E cf g fr hp o

def LookEq (ops : List Oper) (o : Oper) (f h : Fr) : Prop := ∀ t ∈ looks ops o, get f t = get h t

theorem LookEq.of_feq {o : Oper} {f h : Fr} (e : Feq f h) : LookEq ops o f h := fun t _ => e t

theorem LookEq.opd {o : Oper} {f h : Fr} (e : LookEq ops o f h) : ∀ x ∈ o.op.operands, opd f x = opd h x := fun x hx => by
  cases x with
  | tmp t => exact e t (List.mem_append_left _ (List.mem_filterMap.2 ⟨.tmp t, by simpa using hx, rfl⟩))
  | _ => rfl

theorem LookEq.wanted {o : Oper} {f h : Fr} (e : LookEq ops o f h) : wantedV ops f o = wantedV ops h o := by
  unfold wantedV
  cases hg : o.guard with
  | none => rfl
  | some jw =>
    obtain ⟨j, want⟩ := jw
    simp only
    cases hq : ops[j]? with
    | none => rfl
    | some q =>
      simp only
      cases hd : q.dst with
      | none => rfl
      | some d =>
        simp only
        rw [e d (List.mem_append_right _ (by simp [hg, hq, hd]))]

/-- What a step does, whatever the frame holds elsewhere. -/
structure Cls (E : Env) (cf : CF) (g : FuncId) (ops : List Oper) (o : Oper) (fr : Fr) (hp : Hp) (v : V) (fr' : Fr) (hp' : Hp) (k : Nat) (tr : Fr → Fr) : Prop where
  any : ∀ fr2, LookEq ops o fr fr2 → stepV E cf g ops fr2 hp o = some (v, tr fr2, hp', k)
  this : fr' = tr fr
  same : k ≠ 4 → ∀ f, tr f = f
  feq : ∀ f f2, Feq f f2 → Feq (tr f) (tr f2)
  c0 : k = 0 → hp' = hp ∧ ∀ hp2, stepV E cf g ops fr hp2 o = some (v, fr, hp2, 0)
  c1 : k = 1 → hp' = hp ∧ ∀ hp2 : Hp, (∀ x ∈ o.op.operands, ∀ u, opd fr x = some u → ∀ i ∈ u.top, hp[i]? ≠ none → hp2[i]? = hp[i]?) → stepV E cf g ops fr hp2 o = some (v, fr, hp2, 1)
  c2 : k = 2 → ∃ X, hp' = hp ++ X

theorem stepV_cls {fr fr' : Fr} {hp hp' : Hp} {o : Oper} {v : V} {k : Nat} (h : stepV E cf g ops fr hp o = some (v, fr', hp', k)) : ∃ tr, Cls E cf g ops o fr hp v fr' hp' k tr := by
  unfold stepV at h
  split at h
  · simp at h
  · rename_i hw
    simp only [Option.some.injEq, Prod.mk.injEq] at h
    obtain ⟨rfl, rfl, rfl, rfl⟩ := h
    exact ⟨id, fun fr2 e => by simp only [stepV, ← e.wanted, hw, id], rfl, fun _ _ => rfl, fun _ _ e => e, fun _ => ⟨rfl, fun hp2 => by simp only [stepV, hw]⟩, by simp, by simp⟩
  · rename_i hw
    have base : (∀ f a t, o.op ≠ .call ⟨.value f, a, t⟩) → ∃ tr, Cls E cf g ops o fr hp v fr' hp' k tr := by
      intro hne
      have hop : ∀ fr hp, opx E cf g fr hp o = match op0 E.T (E.own g) fr hp o with | some (v, hp', k) => some (v, fr, hp', k) | none => none := by
        intro fr hp
        unfold opx
        split
        · rename_i f a t ho; exact absurd ho (hne _ _ _)
        · rfl
      rw [hop] at h
      split at h <;> simp only [Option.some.injEq, Prod.mk.injEq, reduceCtorEq] at h
      rename_i v0 hp0 k0 h0
      obtain ⟨rfl, rfl, rfl, rfl⟩ := h
      have hst : ∀ fr2 hp2 v hp' k, LookEq ops o fr fr2 → op0 E.T (E.own g) fr hp2 o = some (v, hp', k) → stepV E cf g ops fr2 hp2 o = some (v, fr2, hp', k) := by
        intro fr2 hp2 v hp' k e hv
        simp only [stepV, ← e.wanted, hw, hop]
        rw [← op0_congr e.opd, hv]
      obtain ⟨f0, f1, f2⟩ := fine_op0 (T := E.T) (own := E.own g) (fr := fr) (o := o) (S := o.op.operands.toList.flatMap fun x => match opd fr x with | some v => v.top | none => [])
        (fun x hx v hv i hi => List.mem_flatMap.2 ⟨x, by simpa using hx, by simp only [hv]; exact hi⟩) hp v0 hp0 k0 h0
      refine ⟨id, fun fr2 e => hst fr2 hp _ _ _ e h0, rfl, fun _ _ => rfl, fun _ _ e => e, fun hk => ⟨(f0 hk).1, fun hp2 => hst fr hp2 _ _ _ (fun _ _ => rfl) ((f0 hk).2 hp2)⟩,
        fun hk => ⟨(f1 hk).1, fun hp2 hs => hst fr hp2 _ _ _ (fun _ _ => rfl) ((f1 hk).2 hp2 fun i hi hne => ?_)⟩, f2⟩
      obtain ⟨x, hx, hi⟩ := List.mem_flatMap.1 hi
      split at hi
      · rename_i u hu; exact hs x (by simpa using hx) u hu i hi ‹_›
      · simp at hi
    by_cases hcall : ∃ f a t, o.op = .call ⟨.value f, a, t⟩
    · obtain ⟨f, a, t, ho⟩ := hcall
      have hop : ∀ fr hp, opx E cf g fr hp o = match opd fr f, opdL fr a.toList with
          | some (.fn h caps), some l => match xcall (E.byref h) cf h (mapTL C.fix (E.fx h) (l ++ caps)) fr hp with
            | some (vals, fr', hp', k) => some (tupV vals, fr', hp', k)
            | none => none
          | _, _ => none := by
        intro fr hp
        simp only [opx, ho]
        generalize opd fr f = x
        generalize opdL fr a.toList = y
        cases x with
        | none => rfl
        | some x => cases y with
          | none => cases x <;> rfl
          | some y => cases x <;> try rfl
      have hopd : ∀ {fr2}, LookEq ops o fr fr2 → opd fr f = opd fr2 f ∧ opdL fr a.toList = opdL fr2 a.toList := by
        intro fr2 e
        have := e.opd
        rw [ho] at this
        simp only [Op.operands, Call.operands] at this
        exact ⟨this f (by simp), opdL_congr fun x hx => this x (by simp at hx; simp [hx])⟩
      rw [hop] at h
      split at h
      case h_2 => simp at h
      rename_i hf caps l h1 h2
      split at h <;> simp only [Option.some.injEq, Prod.mk.injEq, reduceCtorEq] at h
      rename_i vals0 fr0 hp0 k0 hx
      obtain ⟨rfl, rfl, rfl, rfl⟩ := h
      obtain ⟨tr, t1, t2, t3, t4, t5, t6, t7⟩ := xcall_cls hx
      refine ⟨tr, fun fr2 e => ?_, t2, t3, t4, fun hk => ⟨(t5 hk).1, fun hp2 => ?_⟩, fun hk => absurd hk t6, t7⟩
      · obtain ⟨e1, e2⟩ := hopd e
        simp only [stepV, ← e.wanted, hw, hop, ← e1, ← e2, h1, h2, t1 fr2]
      · simp only [stepV, hw, hop, h1, h2, (t5 hk).2 hp2 fr]
    · exact base fun f a t ho => hcall ⟨f, a, t, ho⟩

/-! ## orders -/
theorem apart_spec {o q : Oper} (h : apart ops o q = true) : (∀ d, o.dst = some d → d ∉ looks ops q) ∧ (∀ d, o.dst = some d → q.dst ≠ some d) ∧ (∀ d, q.dst = some d → d ∉ looks ops o) := by
  refine ⟨fun d hd => ?_, fun d hd => ?_, fun d hd => ?_⟩ <;> simp [apart, hd] at h
  · exact h.1.1
  · exact h.1.2
  · exact h.2

theorem put_look {o : Oper} {d : Option Nat} {v : V} {f f' : Fr} (hp : put n d v f = some f') (h : ∀ t, d = some t → t ∉ looks ops o) : LookEq ops o f f' := fun t ht =>
  (put_get hp fun e => h t e ht).symm

theorem put_put {d e : Option Nat} {v u : V} {f f1 f2 : Fr} (h1 : put n d v f = some f1) (h2 : put n e u f1 = some f2) (hne : ∀ t, d = some t → e ≠ some t) :
    ∃ f3 f4, put n e u f = some f3 ∧ put n d v f3 = some f4 ∧ Feq f2 f4 := by
  cases d with
  | none =>
    simp only [put, Option.some.injEq] at h1
    subst h1
    exact ⟨f2, f2, h2, rfl, Feq.refl _⟩
  | some a => cases e with
    | none =>
      simp only [put, Option.some.injEq] at h2
      subst h2
      exact ⟨f, f1, rfl, h1, Feq.refl _⟩
    | some b =>
      have hab : a ≠ b := fun e => hne a rfl (by rw [e])
      simp only [put] at h1 h2 ⊢
      split at h1 <;> simp only [Option.some.injEq, reduceCtorEq] at h1
      rename_i ha
      subst h1
      split at h2 <;> simp only [Option.some.injEq, reduceCtorEq] at h2
      rename_i hb
      subst h2
      refine ⟨_, _, if_pos hb, if_pos ha, fun t => ?_⟩
      simp only [get]
      by_cases h1 : t = a
      · subst h1; simp [hab]
      · simp [h1]

def RunI (E : Env) (cf : CF) (g : FuncId) (ops : List Oper) (n : Nat) (κ : Nat → Nat) : List Nat → Fr → Hp → Fr → Hp → Prop
  | [], fr, H, fr', H' => Feq fr fr' ∧ H = H'
  | i :: R, fr, H, fr', H' => ∃ o v fr1 H1 fr2, ops[i]? = some o ∧ stepV E cf g ops fr H o = some (v, fr1, H1, κ i) ∧ put n o.dst v fr1 = some fr2 ∧ RunI E cf g ops n κ R fr2 H1 fr' H'

variable {κ : Nat → Nat}
theorem RunI.feq : ∀ {R : List Nat} {fr f fr' : Fr} {H H' : Hp}, Feq fr f → RunI E cf g ops n κ R fr H fr' H' → RunI E cf g ops n κ R f H fr' H'
  | [], fr, f, fr', H, H', e, h => ⟨e.symm.trans h.1, h.2⟩
  | i :: R, fr, f, fr', H, H', e, h => by
    obtain ⟨o, v, fr1, H1, fr2, h1, h2, h3, h4⟩ := h
    obtain ⟨tr, c⟩ := stepV_cls h2
    have e1 : Feq fr1 (tr f) := by rw [c.this]; exact c.feq _ _ e
    obtain ⟨f2, k1, k2⟩ := put_feq e1 h3
    exact ⟨o, v, tr f, H1, f2, h1, c.any f (LookEq.of_feq e), k1, h4.feq k2⟩

theorem runI_of {rest : List Oper} : ∀ {i : Nat} {fr fr' : Fr} {H H' : Hp} {ks : List Nat}, ops.drop i = rest → runOps E cf g n ops rest fr H = some (fr', H', ks) → (∀ j, j < rest.length → κ (i + j) = ks.getD j 4) → RunI E cf g ops n κ (List.range' i rest.length) fr H fr' H' := by
  induction rest with
  | nil =>
    intro i fr fr' H H' ks _ h _
    simp only [runOps, Option.some.injEq, Prod.mk.injEq] at h
    exact ⟨by rw [h.1]; exact Feq.refl _, h.2.1⟩
  | cons o rest ih =>
    intro i fr fr' H H' ks hd h hκ
    have hoi : ops[i]? = some o := by
      have : (ops.drop i)[0]? = some o := by rw [hd]; rfl
      simpa using this
    have hd' : ops.drop (i + 1) = rest := by rw [← List.drop_drop, hd]; rfl
    simp only [List.length_cons, List.range'_succ]
    simp only [runOps] at h
    have hκ0 := hκ 0 (by simp)
    have go : ∀ {ks2 : List Nat} {k : Nat}, ks = k :: ks2 → κ i = k ∧ ∀ j, j < rest.length → κ (i + 1 + j) = ks2.getD j 4 := by
      intro ks2 k e
      subst e
      refine ⟨by simpa using hκ0, fun j hj => ?_⟩
      have := hκ (j + 1) (by simp; omega)
      rw [show i + 1 + j = i + (j + 1) by omega, this]
      rfl
    split at h
    · simp at h
    · rename_i hw
      split at h
      case h_2 => simp at h
      rename_i fr1 hp
      split at h <;> simp only [Option.some.injEq, Prod.mk.injEq, reduceCtorEq] at h
      rename_i fr2 H2 ks2 hrest
      obtain ⟨rfl, rfl, hk⟩ := h
      obtain ⟨k1, k2⟩ := go hk.symm
      exact ⟨o, .undef, fr, H, fr1, hoi, by simp only [stepV, hw, k1], hp, ih hd' hrest k2⟩
    · rename_i hw
      split at h
      case h_2 => simp at h
      rename_i v fr1 H1 k1 hx
      split at h
      case h_2 => simp at h
      rename_i fr2 hp
      split at h <;> simp only [Option.some.injEq, Prod.mk.injEq, reduceCtorEq] at h
      rename_i fr3 H3 ks3 hrest
      obtain ⟨rfl, rfl, hk⟩ := h
      obtain ⟨k1', k2⟩ := go hk.symm
      exact ⟨o, v, fr1, H1, fr2, hoi, by simp only [stepV, hw, hx, k1'], hp, ih hd' hrest k2⟩

/-- Two operations change places. -/
theorem swap {oj oi : Oper} {kj ki : Nat} {vj vi : V} {fr frj1 frj fr1 fr2 : Fr} {H Hj H1 : Hp} (hj : stepV E cf g ops fr H oj = some (vj, frj1, Hj, kj)) (hjp : put n oj.dst vj frj1 = some frj)
    (hi : stepV E cf g ops frj Hj oi = some (vi, fr1, H1, ki)) (hip : put n oi.dst vi fr1 = some fr2) (hk : pairOk kj ki = true) (hap : apart ops oj oi = true)
    (hcl : ki = 1 → ∀ x ∈ oi.op.operands, ∀ u, opd fr x = some u → ∀ i ∈ u.top, i < H.length) :
    ∃ fri Hi fr2', stepV E cf g ops fr H oi = some (vi, fr, Hi, ki) ∧ put n oi.dst vi fr = some fri ∧ stepV E cf g ops fri Hi oj = some (vj, fri, H1, kj) ∧ put n oj.dst vj fri = some fr2' ∧ Feq fr2 fr2' := by
  obtain ⟨a1, a2, a3⟩ := apart_spec hap
  obtain ⟨trj, cj⟩ := stepV_cls hj
  obtain ⟨tri, ci⟩ := stepV_cls hi
  have hkj : kj ≠ 4 := fun e => by subst e; simp [pairOk] at hk
  have hki : ki ≠ 4 := fun e => by subst e; revert hk; cases kj <;> simp [pairOk]
  have e1 : frj1 = fr := cj.this.trans (cj.same hkj _)
  have e2 : fr1 = frj := ci.this.trans (ci.same hki _)
  subst e1; subst e2
  obtain ⟨fri, fr2', p1, p2, p3⟩ := put_put hjp hip a2
  have lji : LookEq ops oi fr1 frj1 := fun t ht => put_get hjp fun e => a1 t e ht
  have lij : LookEq ops oj frj1 fri := put_look p1 a3
  -- the second one, before the first one's value is laid
  have hi' : stepV E cf g ops frj1 Hj oi = some (vi, frj1, H1, ki) := by
    have := ci.any frj1 lji
    rwa [ci.same hki] at this
  obtain ⟨tri', ci'⟩ := stepV_cls hi'
  have fin : ∀ {Hi : Hp}, stepV E cf g ops frj1 H oi = some (vi, frj1, Hi, ki) → stepV E cf g ops frj1 Hi oj = some (vj, frj1, H1, kj) →
      ∃ fri Hi fr2', stepV E cf g ops frj1 H oi = some (vi, frj1, Hi, ki) ∧ put n oi.dst vi frj1 = some fri ∧ stepV E cf g ops fri Hi oj = some (vj, fri, H1, kj) ∧ put n oj.dst vj fri = some fr2' ∧ Feq fr2 fr2' := by
    intro Hi q1 q2
    obtain ⟨tr, c⟩ := stepV_cls q2
    have := c.any fri lij
    rw [c.same hkj] at this
    exact ⟨fri, Hi, fr2', q1, p1, this, p2, p3⟩
  have hk' : kj = 0 ∨ ki = 0 ∨ (kj = 1 ∧ ki = 1) ∨ (kj = 1 ∧ ki = 2) ∨ (kj = 2 ∧ ki = 1) := by
    unfold pairOk at hk
    split at hk <;> simp_all
  rcases hk' with rfl | rfl | ⟨rfl, rfl⟩ | ⟨rfl, rfl⟩ | ⟨rfl, rfl⟩
  · obtain ⟨q1, q2⟩ := cj.c0 rfl
    subst q1
    exact fin hi' (q2 H1)
  · obtain ⟨q1, q2⟩ := ci'.c0 rfl
    subst q1
    exact fin (q2 H) hj
  · obtain ⟨q1, q2⟩ := cj.c1 rfl
    obtain ⟨q3, q4⟩ := ci'.c1 rfl
    subst q3; subst q1
    exact fin hi' hj
  · obtain ⟨q1, q2⟩ := cj.c1 rfl
    subst q1
    obtain ⟨X, rfl⟩ := ci'.c2 rfl
    refine fin hi' (q2 _ fun x hx u hu i hi hne => ?_)
    have hlt : i < Hj.length := by
      rcases Nat.lt_or_ge i Hj.length with h | h
      · exact h
      · exact absurd (List.getElem?_eq_none h) hne
    exact List.getElem?_append_left hlt
  · obtain ⟨X, hX⟩ := cj.c2 rfl
    obtain ⟨q3, q4⟩ := ci'.c1 rfl
    subst q3; subst hX
    refine fin (q4 H fun x hx u hu i hi hne => ?_) hj
    exact (List.getElem?_append_left (hcl rfl x hx u hu i hi)).symm

/-- An operation that may change places with all ahead of it comes first. -/
theorem to_front {i : Nat} {oi : Oper} (hoi : ops[i]? = some oi) {post : List Nat} {fr' : Fr} {H' : Hp} : ∀ {pre : List Nat} {fr : Fr} {H : Hp}, RunI E cf g ops n κ (pre ++ i :: post) fr H fr' H' →
    (∀ j ∈ pre, ∀ oj, ops[j]? = some oj → pairOk (κ j) (κ i) = true ∧ apart ops oj oi = true) → (κ i = 1 → ∀ x ∈ oi.op.operands, ∀ u, opd fr x = some u → ∀ i ∈ u.top, i < H.length) →
    RunI E cf g ops n κ (i :: (pre ++ post)) fr H fr' H'
  | [], fr, H, h, _, _ => h
  | j :: pre, fr, H, h, hp, hcl => by
    obtain ⟨oj, vj, frj1, Hj, frj, h1, h2, h3, h4⟩ := h
    obtain ⟨q1, q2⟩ := hp j (by simp) oj h1
    obtain ⟨trj, cj⟩ := stepV_cls h2
    have hcl' : κ i = 1 → ∀ x ∈ oi.op.operands, ∀ u, opd frj x = some u → ∀ i ∈ u.top, i < Hj.length := by
      intro hi x hx u hu k hk
      rw [hi] at q1
      have hkj : κ j ≠ 4 := fun e => by rw [e] at q1; simp [pairOk] at q1
      have e1 : frj1 = fr := cj.this.trans (cj.same hkj _)
      subst e1
      have lji : LookEq ops oi frj frj1 := fun t ht => put_get h3 fun e => (apart_spec q2).1 t e ht
      rw [lji.opd x hx] at hu
      refine Nat.lt_of_lt_of_le (hcl hi x hx u hu k hk) ?_
      have : κ j = 0 ∨ κ j = 1 ∨ κ j = 2 := by
        revert q1
        generalize κ j = m
        intro q1
        unfold pairOk at q1
        split at q1 <;> simp_all
      rcases this with e | e | e
      · rw [(cj.c0 e).1]; exact Nat.le_refl _
      · rw [(cj.c1 e).1]; exact Nat.le_refl _
      · obtain ⟨X, rfl⟩ := cj.c2 e; simp
    obtain ⟨oi', vi, fr1, H1, fr2, k1, k2, k3, k4⟩ := to_front hoi h4 (fun k hk => hp k (by simp [hk])) hcl'
    rw [hoi] at k1
    simp only [Option.some.injEq] at k1
    subst k1
    obtain ⟨fri, Hi, fr2', s1, s2, s3, s4, s5⟩ := swap h2 h3 k2 k3 q1 q2 hcl
    exact ⟨oi, vi, fr, Hi, fri, hoi, s1, s2, oj, vj, fri, H1, fr2', h1, s3, s4, k4.feq s5⟩

theorem top_lt {w : World} {A : Nat → Prop} {bl : Nat → Option (Nat × Nat)} {H : Hp} {x : V} {r : Value} (h : RepV w A bl H x r) : ∀ i ∈ x.top, i < H.length := by
  cases h <;> intro i hi <;> simp [V.top] at hi <;> subst hi <;> assumption
end

section
variable {P : Program} {w0 : World} {A0 : Nat → Prop} {bl0 : Nat → Option (Nat × Nat)} {H0 : Hp} {n : Nat} {E : Env} {cf : CF} {g : FuncId} {ops : Array Oper} {κ : Nat → Nat}

theorem Inv.drew {w : World} {A : Nat → Prop} {bl : Nat → Option (Nat × Nat)} {fr : Fr} {H : Hp} {a : Act} (h : Inv w0 A0 bl0 H0 n w A bl fr H a) : Inv w0 A0 bl0 H0 n w.drew (fun b => A b ∨ False) bl fr H a := by
  obtain ⟨h1, h2⟩ := grow h.rep (Grow.drew w) (N := fun _ => False) (fun b hb => hb.elim)
  exact ⟨h1, h.frm.mono h2, h.size, h.defers, h.le.trans h2, h.evo.trans ((Grow.drew w).evo (fun b hb => .inl hb) (fun b hb => hb.elim .inl False.elim))⟩

theorem step_wp (hcf : CFok P cf) (hT : ∀ t y, E.T t = some y → tyOf P t = some y) {i : Nat} {o : Oper} (ho : ops[i]? = some o) {fr fr1 fr2 : Fr} {H H1 : Hp} {v : V} {k : Nat} (hs : stepV E cf g ops.toList fr H o = some (v, fr1, H1, k)) (hp : put n o.dst v fr1 = some fr2)
    {w : World} {A : Nat → Prop} {bl : Nat → Option (Nat × Nat)} {a : Act} (hI : Inv w0 A0 bl0 H0 n w A bl fr H a) {Q : Exit → Act → World → Prop} {K : Act → World → Prop} (hK : ∀ w' A' bl' a', Inv w0 A0 bl0 H0 n w' A' bl' fr2 H1 a' → K a' w') : wpOp P ops Q i K a w := by
  unfold wpOp
  simp only [ho]
  unfold stepV at hs
  split at hs
  · simp at hs
  · rename_i hw
    simp only [Option.some.injEq, Prod.mk.injEq] at hs
    obtain ⟨rfl, rfl, rfl, _⟩ := hs
    rw [wanted_of hI.frm hw]
    simp only [Bool.false_eq_true, if_false]
    exact hK _ _ _ _ (hI.put .undef hp)
  · rename_i hw
    rw [wanted_of hI.frm hw]
    simp only [if_true]
    exact .inl (opx_sound hcf hT hI hs fun r w' A' bl' hI' hv => hK _ _ _ _ (hI'.put hv hp))

def Closed (pre : List (List Nat)) (listed : Array Bool) : Prop := ∀ i, listed.getD i false = true → ∀ p ∈ pre.getD i [], listed.getD p false = true

theorem getD_set {l : Array Bool} {i j : Nat} (hi : i < l.size) (b : Bool) : (l.setIfInBounds i true).getD j b = if j = i then true else l.getD j b := by
  simp only [Array.getD_eq_getD_getElem?, Array.getElem?_setIfInBounds]
  by_cases h : i = j
  · subst h; simp [hi]
  · simp [h, Ne.symm h]

theorem any_order (hcf : CFok P cf) (hT : ∀ t y, E.T t = some y → tyOf P t = some y) {pre : List (List Nat)} (hback : backOk ops.toList = true) (hahead : aheadOk ops.toList pre = true)
    (hpair : ∀ i j oi oj, i < j → ops[i]? = some oi → ops[j]? = some oj → i ∈ pre.getD j [] ∨ (pairOk (κ i) (κ j) = true ∧ apart ops.toList oi oj = true))
    {Q : Exit → Act → World → Prop} {fr' : Fr} {H' : Hp} (hQ : ∀ w' A' bl' a', Inv w0 A0 bl0 H0 n w' A' bl' fr' H' a' → Q .normal a' w') :
    ∀ (fuel : Nat) (R : List Nat) (listed : Array Bool) {fr : Fr} {H : Hp} {w : World} {A : Nat → Prop} {bl : Nat → Option (Nat × Nat)} {a : Act}, R.length ≤ fuel → listed.size = ops.size → R.Pairwise (· < ·) → (∀ i, i ∈ R ↔ i < ops.size ∧ listed.getD i true = false) → Closed pre listed →
      RunI E cf g ops.toList n κ R fr H fr' H' → Inv w0 A0 bl0 H0 n w A bl fr H a → wpAny P .any ops Q fuel listed a w := by
  -- what is ready
  have hready : ∀ {listed : Array Bool} {i : Nat}, i ∈ Region.ready .any ops listed ↔ i < ops.size ∧ listed.getD i true = false ∧ ∃ o, ops[i]? = some o ∧ ∀ e ∈ o.after.toList, Region.binds .any e = true → listed.getD e.on false = true := by
    intro listed i
    simp only [Region.ready, List.mem_filter, List.mem_range, Bool.and_eq_true, Bool.not_eq_true']
    constructor
    · rintro ⟨h1, h2, h3⟩
      refine ⟨h1, h2, ops[i], by simp [h1], fun e he hb => ?_⟩
      rw [Array.getElem?_eq_getElem h1] at h3
      simp only [Option.map_some, Option.getD_some, Array.all_eq_true'] at h3
      have := h3 e (by simpa using he)
      simp only [hb, Bool.not_true, Bool.false_or] at this
      exact this
    · rintro ⟨h1, h2, o, h3, h4⟩
      refine ⟨h1, h2, ?_⟩
      rw [h3]
      simp only [Option.map_some, Option.getD_some, Array.all_eq_true']
      intro e he
      cases hb : Region.binds .any e with
      | false => simp
      | true => rw [h4 e (by simpa using he) hb]; simp
  -- while something is left, something is ready
  have hsome : ∀ {listed : Array Bool} {i : Nat} {R : List Nat}, listed.size = ops.size → (i :: R).Pairwise (· < ·) → (∀ j, j ∈ i :: R ↔ j < ops.size ∧ listed.getD j true = false) → i ∈ Region.ready .any ops listed := by
    intro listed i R hsz hpw hR
    obtain ⟨h1, h2⟩ := (hR i).1 (by simp)
    refine hready.2 ⟨h1, h2, ops[i], by simp [h1], fun e he hb => ?_⟩
    have hlt : e.on < i := by
      simp only [backOk, List.all_eq_true, List.mem_range] at hback
      have := hback i (by simpa using h1)
      rw [show ops.toList[i]? = some ops[i] by simp [h1]] at this
      simp only [List.all_eq_true] at this
      have := this e he
      simpa [hb] using this
    have hnot : ¬ (e.on ∈ i :: R) := fun hm => by
      rcases List.mem_cons.1 hm with h | h
      · omega
      · have := (List.pairwise_cons.1 hpw).1 _ h; omega
    have : ¬ (e.on < ops.size ∧ listed.getD e.on true = false) := fun h => hnot ((hR _).2 h)
    have hl : e.on < listed.size := by omega
    have h3 : listed.getD e.on true = true := by
      cases h : listed.getD e.on true with
      | true => rfl
      | false => exact absurd ⟨by omega, h⟩ this
    simpa [Array.getD, hl] using h3
  have hend : ∀ {R : List Nat} {listed : Array Bool}, Region.ready .any ops listed = [] → listed.size = ops.size → R.Pairwise (· < ·) → (∀ i, i ∈ R ↔ i < ops.size ∧ listed.getD i true = false) → R = [] := by
    intro R listed h hsz hpw hR
    cases R with
    | nil => rfl
    | cons i R => have := hsome hsz hpw hR; rw [h] at this; simp at this
  have hdone : ∀ {listed : Array Bool} {fr : Fr} {H : Hp} {w : World} {A : Nat → Prop} {bl : Nat → Option (Nat × Nat)} {a : Act}, RunI E cf g ops.toList n κ [] fr H fr' H' → Inv w0 A0 bl0 H0 n w A bl fr H a → Q .normal a w := by
    intro listed fr H w A bl a hr hI
    obtain ⟨e, rfl⟩ := hr
    exact hQ _ _ _ _ (hI.frame fun t v ht => by rw [e t]; exact ht)
  intro fuel
  induction fuel with
  | zero =>
    intro R listed fr H w A bl a hlen hsz hpw hR hcl hrun hI
    have : R = [] := List.eq_nil_of_length_eq_zero (by omega)
    subst this
    refine ⟨?_, hdone (listed := listed) hrun hI⟩
    cases hr : Region.ready .any ops listed with
    | nil => rfl
    | cons i l =>
      have : i ∈ Region.ready .any ops listed := by rw [hr]; simp
      have := hready.1 this
      have := (hR i).2 ⟨this.1, this.2.1⟩
      simp at this
  | succ fuel ih =>
    intro R listed fr H w A bl a hlen hsz hpw hR hcl hrun hI
    refine ⟨fun hr => ?_, fun i hi => ?_⟩
    · have := hend hr hsz hpw hR
      subst this
      exact hdone (listed := listed) hrun hI
    · obtain ⟨h1, h2, o, h3, h4⟩ := hready.1 hi
      obtain ⟨s, t, rfl⟩ := List.append_of_mem ((hR i).2 ⟨h1, h2⟩)
      -- whatever must come ahead is listed
      have hpre : ∀ p ∈ pre.getD i [], listed.getD p false = true := by
        intro p hp
        simp only [aheadOk, List.all_eq_true, List.mem_range] at hahead
        have := hahead i (by simpa using h1) p hp
        rw [show ops.toList[i]? = some o by simpa using h3] at this
        simp only [List.any_eq_true, Bool.and_eq_true, Bool.or_eq_true, beq_iff_eq] at this
        obtain ⟨e, he, hb, hq⟩ := this
        rcases hq with rfl | hq
        · exact h4 e he hb
        · exact hcl _ (h4 e he hb) p (by simpa using hq)
      have hpw' := List.pairwise_append.1 hpw
      have hmove : RunI E cf g ops.toList n κ (i :: (s ++ t)) fr H fr' H' := by
        refine to_front (by simpa using h3) hrun (fun j hj oj hoj => ?_) fun _ x hx u hu k hk => ?_
        · have hji : j < i := hpw'.2.2 j hj i (by simp)
          rcases hpair j i oj o hji (by simpa using hoj) h3 with h | h
          · have hl := hpre j h
            have := ((hR j).1 (by simp [hj])).2
            have hj2 := ((hR j).1 (by simp [hj])).1
            simp [Array.getD, show j < listed.size by omega] at hl this
            rw [hl] at this
            simp at this
          · exact h
        · exact top_lt (opd_rep hI.frm hu) k hk
      obtain ⟨o', v, fr1, H1, fr2, k1, k2, k3, k4⟩ := hmove
      have : o' = o := by simpa [h3] using k1.symm
      subst this
      have hi' : i < listed.size := by omega
      refine step_wp hcf hT h3 k2 k3 hI fun w' A' bl' a' hI' => ih (s ++ t) (listed.setIfInBounds i true) (by simp at hlen ⊢; omega) (by simpa using hsz) ?_ (fun j => ?_) (fun j hj p hp => ?_) k4 hI'
      · exact List.pairwise_append.2 ⟨hpw'.1, (List.pairwise_cons.1 hpw'.2.1).2, fun x hx y hy => hpw'.2.2 x hx y (by simp [hy])⟩
      · rw [getD_set hi']
        have hj := hR j
        have hni : i ∉ s ++ t := by
          intro hm
          rcases List.mem_append.1 hm with hm | hm
          · have := hpw'.2.2 i hm i (by simp); omega
          · have := (List.pairwise_cons.1 hpw'.2.1).1 i hm; omega
        by_cases hji : j = i
        · subst hji; simp only [if_true, Bool.true_eq_false, and_false, iff_false]; exact hni
        · rw [if_neg hji, ← hj]; simp [hji]
      · rw [getD_set hi'] at hj ⊢
        split
        · rfl
        · split at hj
          · rename_i e; subst e; exact hpre p hp
          · exact hcl j hj p hp

theorem draw_ok (hm : P.follows .mixedOrders = true) : DrawOk P := by
  intro E cf hcf hT g id n ops Q w0 A0 bl0 H0 fr fr' H H' ks w A bl a hrun hdraw hI hQ
  refine wp_region_any hm ?_
  simp only [drawOk, Bool.and_eq_true] at hdraw
  obtain ⟨⟨hb, ha⟩, hp⟩ := hdraw
  refine any_order (g := g) (κ := fun i => ks.getD i 4) hcf hT hb ha ?_ hQ ops.size (List.range ops.size) _ (by simp) (by simp) List.pairwise_lt_range (fun i => ?_) (fun i hi => ?_) ?_ hI.drew
  · intro i j oi oj hij hoi hoj
    have hi := (Array.getElem?_eq_some_iff.1 hoi).1
    have hj := (Array.getElem?_eq_some_iff.1 hoj).1
    simp only [List.all_eq_true, List.mem_range] at hp
    have := hp j (by simpa using hj) i hij
    rw [show ops.toList[i]? = some oi by simpa using hoi, show ops.toList[j]? = some oj by simpa using hoj] at this
    simp only [Bool.or_eq_true, Bool.and_eq_true] at this
    exact this.imp (fun h => by simpa using h) fun h => h
  · constructor
    · intro h
      have h := List.mem_range.1 h
      exact ⟨h, by simp [Array.getD, h]⟩
    · exact fun h => List.mem_range.2 h.1
  · simp [Array.getD] at hi
  · have := runI_of (n := n) (κ := fun i => ks.getD i 4) (i := 0) (by simp) hrun (fun j _ => by rw [Nat.zero_add])
    simpa [List.range_eq_range'] using this
end
end Go.Ev
