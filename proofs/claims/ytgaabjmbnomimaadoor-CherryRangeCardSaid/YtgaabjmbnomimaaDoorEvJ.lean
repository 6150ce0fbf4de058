/-
  EV, part J: a region may draw the order of its operations: what the text's order gives, every order gives; EV, part R: a loop over an iterator: the iterator's run and the rounds, each told without the other; EV, part S: a loop over an iterator: what the abstract interpreter says, the machine does; EV, part X: code, functions: what the abstract interpreter says, the machine does.
-/
import Derived.Test.YtgaabjmbnomimaaDoorEvE
set_option linter.all false
namespace Go.Ev
def Feq (f h : Fr) : Prop := ∀ t, get f t = get h t
theorem Feq.refl (f : Fr) : Feq f f := fun _ => rfl
theorem Feq.symm {f h : Fr} (x : Feq f h) : Feq h f := fun t => (x t).symm
theorem Feq.trans {f h k : Fr} (x : Feq f h) (y : Feq h k) : Feq f k := fun t => (x t).trans (y t)
theorem put_feq {n : Nat} {d : Option Nat} {v : V} {f h f' : Fr} (e : Feq f h) (hp : put n d v f = some f') : ∃ h', put n d v h = some h' /\ Feq f' h' := by
 unfold put at hp ⊢
 split at hp
 · split at hp <;> simp only [Option.some.injEq, reduceCtorEq] at hp
   rename_i ht
   subst hp
   refine ⟨_, if_pos ht, fun t => ?_⟩
   simp only [get]
   split
   · rfl
   · exact e t
 · simp only [Option.some.injEq] at hp
   subst hp
   exact ⟨_, rfl, e⟩
theorem put_get {n : Nat} {d : Option Nat} {v : V} {f f' : Fr} (hp : put n d v f = some f') {t : Nat} (h : d ≠ some t) : get f' t = get f t := by
 unfold put at hp
 split at hp
 · split at hp <;> simp only [Option.some.injEq, reduceCtorEq] at hp
   subst hp
   simp only [get]
   rw [if_neg (fun e => h (by rw [e]))]
 · simp only [Option.some.injEq] at hp
   subst hp; rfl
theorem get_frzF {hp : Hp} {p : Nat -> Bool} : ∀ {fr : Fr} {t : Nat}, get (frzF hp p fr) t = (get fr t).map (V.frz hp p)
 | [], t => rfl
 | (k, v) :: r, t => by
   simp only [frzF, get]
   split
   · rfl
   · exact get_frzF
theorem opdL_congr {f h : Fr} : ∀ {l : List Operand}, (∀ x ∈ l, opd f x = opd h x) -> opdL f l = opdL h l
 | [], _ => rfl
 | x :: r, e => by
   simp only [opdL, e x (by simp), opdL_congr (l := r) fun y hy => e y (by simp [hy])]
theorem opdP_congr {f h : Fr} : ∀ {l : List (Nat × Operand)}, (∀ x ∈ l.map (·.2), opd f x = opd h x) -> opdP f l = opdP h l
 | [], _ => rfl
 | (i, x) :: r, e => by
   simp only [opdP, e x (by simp), opdP_congr (l := r) fun y hy => e y (by simp at hy ⊢; exact .inr hy)]
theorem bnd_congr {f h : Fr} {x : Option Operand} (e : ∀ y ∈ x.toArray, opd f y = opd h y) : bnd f x = bnd h x := by
 cases x with
 | none => rfl
 | some y => simp only [bnd, e y (by simp)]
theorem op0_congr {T : TypeId -> Option Ty} {own : Nat -> Bool} {f h : Fr} {hp : Hp} {o : Oper} (e : ∀ x ∈ o.op.operands, opd f x = opd h x) : op0 T own f hp o = op0 T own h hp o := by
 obtain ⟨dst, op, type, pos, after, guard⟩ := o
 cases op <;> simp only [Op.operands] at e <;> try rfl
 case move x => simp only [op0, e x (by simp)]
 case assign x => simp only [op0, e x (by simp)]
 case pick c a b => simp only [op0, e c (by simp), e a (by simp), e b (by simp)]
 case box t x => simp only [op0, e x (by simp)]
 case build t ps => simp only [op0, opdP_congr (l := ps.toList) fun x hx => e x (by simpa using hx)]
 case buildSlice t n ps => simp only [op0, opdP_congr (l := ps.toList) fun x hx => e x (by simpa using hx)]
 case load t a => simp only [op0, e a (by simp)]
 case store t a x => simp only [op0, e a (by simp), e x (by simp)]
 case nilCheck x => simp only [op0, e x (by simp)]
 case binOp op t x y t' => simp only [op0, e x (by simp), e y (by simp)]
 case unOp op t x => simp only [op0, e x (by simp)]
 case convert s d x => simp only [op0, e x (by simp)]
 case makeFunc c first caps =>
   cases c <;> simp only [op0]
   rw [opdL_congr (l := caps.toList) fun x hx => e x (by simp at hx; simp [hx])]
 case makeSlice t n c => simp only [op0, e n (by simp), e c (by simp)]
 case slice t x lo hi mx =>
   simp only [op0, e x (by simp), bnd_congr (x := lo) fun y hy => e y (by simp at hy; simp [hy]), bnd_congr (x := hi) fun y hy => e y (by simp at hy; simp [hy]), bnd_congr (x := mx) fun y hy => e y (by simp at hy; simp [hy])]
 case fieldAddr s x i => simp only [op0, e x (by simp)]
 case field s x i => simp only [op0, e x (by simp)]
 case indexAddr t x i => simp only [op0, e x (by simp), e i (by simp)]
 case index t x i => simp only [op0, e x (by simp), e i (by simp)]
 case extract x i => simp only [op0, e x (by simp)]
 case call c =>
   obtain ⟨callee, args, ts⟩ := c
   cases callee <;> simp only [op0]
   simp only [Call.operands] at e
   rw [opdL_congr (l := args.toList) fun x hx => e x (by simp at hx; simp [hx])]
def Fine (S : List Nat) (f : Hp -> R0) : Prop := ∀ hp v hp' k, f hp = some (v, hp', k) →
 (k = 0 -> hp' = hp /\ ∀ hp2, f hp2 = some (v, hp2, 0)) /\ (k = 1 -> hp' = hp /\ ∀ hp2 : Hp, (∀ i ∈ S, hp[i]? ≠ none -> hp2[i]? = hp[i]?) -> f hp2 = some (v, hp2, 1)) /\ (k = 2 -> ∃ X, hp' = hp ++ X)
theorem fine_none {S : List Nat} : Fine S fun _ => none := fun hp v hp' k h => by simp at h
theorem fine_pure {S : List Nat} {v : V} : Fine S fun hp => some (v, hp, 0) := fun hp v' hp' k h => by
 simp only [Option.some.injEq, Prod.mk.injEq] at h
 obtain ⟨rfl, rfl, rfl⟩ := h
 exact ⟨fun _ => ⟨rfl, fun _ => rfl⟩, fun h => by simp at h, fun h => by simp at h⟩
theorem fine_pureR {S : List Nat} {x : Option V} : Fine S fun hp => pureR hp x := by
 cases x with
 | none => exact fine_none
 | some v => exact fine_pure
theorem fine_make {S : List Nat} {v : Hp -> V} {X : Hp -> Hp} : Fine S fun hp => some (v hp, hp ++ X hp, 2) := fun hp v' hp' k h => by
 simp only [Option.some.injEq, Prod.mk.injEq] at h
 obtain ⟨rfl, rfl, rfl⟩ := h
 exact ⟨fun h => by simp at h, fun h => by simp at h, fun _ => ⟨_, rfl⟩⟩
theorem fine_of {S : List Nat} {f : Hp -> R0} (h : ∀ hp v hp' k, f hp = some (v, hp', k) -> (k = 1 /\ hp' = hp /\ ∀ hp2 : Hp, (∀ i ∈ S, hp[i]? ≠ none -> hp2[i]? = hp[i]?) -> f hp2 = some (v, hp2, 1)) \/ k = 3) : Fine S f := fun hp v hp' k hf => by
 rcases h hp v hp' k hf with ⟨rfl, rfl, h1⟩ | rfl
 · exact ⟨fun h => by simp at h, fun _ => ⟨rfl, h1⟩, fun h => by simp at h⟩
 · exact ⟨fun h => by simp at h, fun h => by simp at h, fun h => by simp at h⟩
theorem fine_nilRow {S : List Nat} {T : TypeId -> Option Ty} {t : TypeId} : Fine S fun hp => nilRow T hp t := by
 unfold nilRow
 split
 · exact fine_none
 · split
   · split
     · exact fine_make
     · exact fine_none
   · exact fine_none
theorem fine_moveV {S : List Nat} {T : TypeId -> Option Ty} {ow : Bool} {t : TypeId} {v : V} : Fine S fun hp => moveV T ow hp t v := by
 unfold moveV
 split
 · split
   · exact fine_nilRow
   · split
     · split
       · exact fine_pure
       · exact fine_pure
     · exact fine_pure
 · exact fine_pure
theorem fine_allocV {S : List Nat} {T : TypeId -> Option Ty} {ow : Bool} {t : TypeId} : Fine S fun hp => allocV T ow hp t := by
 unfold allocV
 split
 · exact fine_none
 · split
   · split
     · exact fine_make
     · exact fine_none
   · split
     · split
       · split
         · simp only [List.append_assoc]; exact fine_make
         · exact fine_none
       · exact fine_none
     · exact fine_make
   · exact fine_make
theorem fine_boxV {S : List Nat} {v : V} : Fine S fun hp => boxV hp v := by
 unfold boxV
 split
 · exact fine_make
 · exact fine_none
theorem fine_buildV {S : List Nat} {T : TypeId -> Option Ty} {t : TypeId} {l : List (Nat × V)} : Fine S fun hp => buildV T hp t l := by
 unfold buildV
 split
 · exact fine_none
 · split
   · split
     · exact fine_pure
     · exact fine_none
   · exact fine_none
theorem fine_laid {S : List Nat} {ow : Bool} {sz n : Nat} {l : List (List C)} : Fine S fun hp => laid ow hp sz n l := by
 unfold laid
 split
 · exact fine_make
 · exact fine_pure
theorem fine_buildSliceV {S : List Nat} {T : TypeId -> Option Ty} {ow : Bool} {t : TypeId} {n : Nat} {l : List (Nat × V)} : Fine S fun hp => buildSliceV T ow hp t n l := by
 unfold buildSliceV
 repeat' first | exact fine_none | exact fine_laid | split
theorem fine_nilCheckV {S : List Nat} {v : V} : Fine S fun hp => nilCheckV hp v := by
 unfold nilCheckV
 split
 · exact fine_pure
 · exact fine_pure
 · exact fine_none
theorem fine_makeSliceV {S : List Nat} {T : TypeId -> Option Ty} {t : TypeId} {n c : V} : Fine S fun hp => makeSliceV T hp t n c := by
 unfold makeSliceV
 repeat' first | exact fine_none | exact fine_make | split
theorem fine_fieldAddrV {S : List Nat} {T : TypeId -> Option Ty} {t : TypeId} {v : V} {f : Nat} : Fine S fun hp => fieldAddrV T hp t v f := by
 unfold fieldAddrV
 repeat' first | exact fine_none | exact fine_pure | split
theorem fine_fieldV {S : List Nat} {T : TypeId -> Option Ty} {t : TypeId} {v : V} {f : Nat} : Fine S fun hp => fieldV T hp t v f := by
 unfold fieldV
 repeat' first | exact fine_none | exact fine_pureR | split
theorem fine_indexV {S : List Nat} {T : TypeId -> Option Ty} {t : TypeId} {v i : V} : Fine S fun hp => indexV T hp t v i := by
 unfold indexV
 repeat' first | exact fine_none | exact fine_pure | exact fine_pureR | split
theorem fine_storeR {S : List Nat} {T : TypeId -> Option Ty} {t : TypeId} {v u : V} : Fine S fun hp => storeR T hp t v u := by
 refine fine_of fun hp x hp' k h => .inr ?_
 unfold storeR at h
 split at h
 · simp at h
 · split at h <;> simp only [Option.some.injEq, Prod.mk.injEq, reduceCtorEq] at h
   exact h.2.2.symm
theorem loadV_agree {hp hp2 : Hp} {y : Ty} {v x : V} (h : ∀ i ∈ v.top, hp[i]? ≠ none -> hp2[i]? = hp[i]?) (hx : loadV hp y v = some x) : loadV hp2 y v = some x := by
 rw [<- hx]
 cases v <;> try rfl
 rename_i i ep el o
 have hne : hp[i]? ≠ none := fun hn => by simp [loadV, hn] at hx
 simp only [loadV, h i (by simp [V.top]) hne]
theorem fine_loadR {T : TypeId -> Option Ty} {t : TypeId} {v : V} : Fine v.top fun hp => loadR T hp t v := by
 intro hp x hp' k h
 simp only [loadR] at h ⊢
 split at h
 · simp at h
 · rename_i y hy
   split at h <;> simp only [Option.some.injEq, Prod.mk.injEq, reduceCtorEq] at h
   rename_i x' hx
   obtain ⟨rfl, rfl, rfl⟩ := h
   refine ⟨fun hk => ⟨rfl, fun hp2 => ?_⟩, fun hk => ⟨rfl, fun hp2 hs => ?_⟩, fun hk => ?_⟩
   · have : loadV hp2 y v = loadV hp y v := by cases v <;> first | rfl | simp at hk
     rw [this, hx]
     simp only [hk]
   · rw [loadV_agree hs hx]
     simp only [hk]
   · split at hk <;> simp at hk
theorem lenV_agree {T : TypeId -> Option Ty} {hp hp2 : Hp} {t : TypeId} {v : V} {x : Nat} (h : ∀ i ∈ v.top, hp[i]? ≠ none -> hp2[i]? = hp[i]?) (hx : lenV T hp t v = some x) : lenV T hp2 t v = some x := by
 rw [<- hx]
 unfold lenV at hx ⊢
 split
 · rfl
 · rename_i y hy
   simp only [hy] at hx
   split <;> try rfl
   rename_i i ep off n hk
   have hne : hp[i]? ≠ none := fun hn => by simp [hk, hn] at hx
   simp only [h i (by simp [V.top]) hne]
theorem fine_sliceV {T : TypeId -> Option Ty} {t : TypeId} {v : V} {lo hi mx : Option Nat} : Fine v.top fun hp => sliceV T hp t v lo hi mx := by
 unfold sliceV
 split
 · exact fine_none
 · rename_i y hy
   split
   · repeat' first | exact fine_none | exact fine_pure | split
   · repeat' first | exact fine_none | exact fine_pure | split
   · rename_i e i ep off len hk
     refine fine_of fun hp x hp' k h => .inl ?_
     split at h
     case h_2 => simp at h
     rename_i ye z ep' xs hye hi'
     split at h <;> simp only [Option.some.injEq, Prod.mk.injEq, reduceCtorEq] at h
     rename_i hc
     obtain ⟨rfl, rfl, rfl⟩ := h
     refine ⟨rfl, rfl, fun hp2 hs => ?_⟩
     have := hs i (by simp [V.top]) (by rw [hi']; simp)
     rw [hi'] at this
     simp only [this, hye, if_pos hc]
   · exact fine_none
theorem fine_indexAddrV {T : TypeId -> Option Ty} {t : TypeId} {v ix : V} : Fine v.top fun hp => indexAddrV T hp t v ix := by
 unfold indexAddrV
 split
 case h_2 => exact fine_none
 split
 case isFalse => exact fine_none
 split
 · exact fine_none
 · split
   · split
     · exact fine_none
     · split
       · split
         · split
           · exact fine_pure
           · exact fine_none
         · exact fine_none
       · rename_i i ep off len
         refine fine_of fun hp x hp' k h => .inl ?_
         split at h
         case h_2 => simp at h
         rename_i z ep' xs hi'
         split at h <;> simp only [Option.some.injEq, Prod.mk.injEq, reduceCtorEq] at h
         rename_i hc
         obtain ⟨rfl, rfl, rfl⟩ := h
         refine ⟨rfl, rfl, fun hp2 hs => ?_⟩
         have := hs i (by simp [V.top]) (by rw [hi']; simp)
         rw [hi'] at this
         simp only [this, if_pos hc]
       · exact fine_none
   · split
     · exact fine_none
     · split
       case isFalse => exact fine_none
       split
       case h_2 => exact fine_none
       rename_i i ep el o
       refine fine_of fun hp x hp' k h => .inl ?_
       split at h
       · rename_i z ep' xs hi'
         split at h <;> simp only [Option.some.injEq, Prod.mk.injEq, reduceCtorEq] at h
         rename_i hc
         obtain ⟨rfl, rfl, rfl⟩ := h
         refine ⟨rfl, rfl, fun hp2 hs => ?_⟩
         have := hs i (by simp [V.top]) (by rw [hi']; simp)
         rw [hi'] at this
         simp only [this, if_pos hc]
       · rename_i cs hi'
         simp only [Option.some.injEq, Prod.mk.injEq] at h
         obtain ⟨rfl, rfl, rfl⟩ := h
         refine ⟨rfl, rfl, fun hp2 hs => ?_⟩
         have := hs i (by simp [V.top]) (by rw [hi']; simp)
         rw [hi'] at this
         simp only [this]
       · simp at h
   · exact fine_none
theorem fine_appB {S : List Nat} {T : TypeId -> Option Ty} {t tx : TypeId} {d s : V} : Fine S fun hp => appB T hp t tx d s := by
 have key : ∀ {sz : Nat}, Fine S fun hp => appendV sz hp d s := by
   intro sz hp v hp' k h
   change appendV sz hp d s = _ at h
   unfold appendV at h
   split at h
   · simp at h
   · split at h
     · split at h <;> simp only [Option.some.injEq, Prod.mk.injEq, reduceCtorEq] at h
       obtain ⟨rfl, rfl, rfl⟩ := h
       exact ⟨fun h => by simp at h, fun h => by simp at h, fun _ => ⟨_, rfl⟩⟩
     · split at h
       · split at h <;> simp only [Option.some.injEq, Prod.mk.injEq, reduceCtorEq] at h
         obtain ⟨rfl, rfl, rfl⟩ := h
         exact ⟨fun h => by simp at h, fun h => by simp at h, fun h => by simp at h⟩
       · simp at h
     · simp at h
 unfold appB
 split
 · split
   · split
     · split
       · exact key
       · exact fine_none
     · exact fine_none
   · exact fine_none
 · exact fine_none
theorem fine_bltn {T : TypeId -> Option Ty} {b : Builtin} {ts : List TypeId} {xs : List V} {S : List Nat} (hS : ∀ x ∈ xs, ∀ i ∈ x.top, i ∈ S) : Fine S fun hp => bltn T hp b ts xs := by
 unfold bltn
 split
 · split
   · rename_i t x
     intro hp v hp' k h
     simp only at h ⊢
     split at h <;> simp only [Option.some.injEq, Prod.mk.injEq, reduceCtorEq] at h
     rename_i n hn
     obtain ⟨rfl, rfl, rfl⟩ := h
     have hs' : ∀ hp2 : Hp, (∀ i ∈ S, hp[i]? ≠ none -> hp2[i]? = hp[i]?) -> lenV T hp2 t x = some n := fun hp2 hs =>
       lenV_agree (fun i hi => hs i (hS x (by simp) i hi)) hn
     refine ⟨fun hk => ⟨rfl, fun hp2 => ?_⟩, fun hk => ⟨rfl, fun hp2 hs => ?_⟩, fun hk => ?_⟩
     · have : lenV T hp2 t x = some n := by
         cases x with
         | buf i ep off len => simp at hk
         | ptr i ep el o =>
           rw [<- hn]
           unfold lenV
           split
           · rfl
           · split <;> first | rfl | (rename_i h; simp at h)
         | _ => exact lenV_agree (fun i hi => absurd hi (by simp [V.top])) hn
       rw [this]
       simp only [hk]
     · rw [hs' hp2 hs]
       simp only [hk]
     · split at hk <;> simp at hk
   · exact fine_none
 · split
   · exact fine_appB
   · exact fine_none
 · split
   · exact fine_pureR
   · exact fine_none
 · split
   · split
     · exact fine_pure
     · exact fine_none
   · exact fine_none
 · split
   · split
     · exact fine_pure
     · exact fine_none
   · exact fine_none
 · exact fine_none
theorem opdL_mem {f : Fr} : ∀ {l : List Operand} {vs : List V}, opdL f l = some vs -> ∀ v ∈ vs, ∃ x ∈ l, opd f x = some v
 | [], vs, h, v, hv => by simp only [opdL, Option.some.injEq] at h; subst h; simp at hv
 | x :: r, vs, h, v, hv => by
   simp only [opdL] at h
   split at h <;> simp only [Option.some.injEq, reduceCtorEq] at h
   rename_i y l hy hl
   subst h
   rcases List.mem_cons.1 hv with rfl | hv
   · exact ⟨x, by simp, hy⟩
   · obtain ⟨z, hz, e⟩ := opdL_mem hl v hv
     exact ⟨z, by simp [hz], e⟩
theorem fine_mono {S S' : List Nat} {f : Hp -> R0} (hs : ∀ i ∈ S, i ∈ S') (h : Fine S f) : Fine S' f := fun hp v hp' k hf => by
 obtain ⟨h0, h1, h2⟩ := h hp v hp' k hf
 exact ⟨h0, fun hk => ⟨(h1 hk).1, fun hp2 hh => (h1 hk).2 hp2 fun i hi => hh i (hs i hi)⟩, h2⟩
theorem fine_op0 {T : TypeId -> Option Ty} {own : Nat -> Bool} {fr : Fr} {o : Oper} {S : List Nat} (hS : ∀ x ∈ o.op.operands, ∀ v, opd fr x = some v -> ∀ i ∈ v.top, i ∈ S) : Fine S fun hp => op0 T own fr hp o := by
 obtain ⟨dst, op, type, pos, after, guard⟩ := o
 cases op <;> simp only [Op.operands] at hS <;> simp only [op0] <;> try exact fine_none
 case move x => split <;> first | exact fine_moveV | exact fine_none
 case assign x => split <;> first | exact fine_moveV | exact fine_none
 case pick c a b => split <;> first | exact fine_pureR | exact fine_none
 case box t x => split <;> first | exact fine_boxV | exact fine_none
 case alloc t => exact fine_allocV
 case build t ps => split <;> first | exact fine_buildV | exact fine_none
 case buildSlice t n ps => split <;> first | exact fine_buildSliceV | exact fine_none
 case load t a =>
   split
   · rename_i v hv; exact fine_mono (hS a (by simp) v hv) fine_loadR
   · exact fine_none
 case store t a x => split <;> first | exact fine_storeR | exact fine_none
 case nilCheck x => split <;> first | exact fine_nilCheckV | exact fine_none
 case binOp op t x y t' => split <;> first | exact fine_pureR | exact fine_none
 case unOp op t x => split <;> first | exact fine_pureR | exact fine_none
 case convert s d x => split <;> first | exact fine_pureR | exact fine_none
 case makeFunc c first caps => cases c <;> simp only [] <;> repeat' first | exact fine_none | exact fine_pure | split
 case makeSlice t n c => split <;> first | exact fine_makeSliceV | exact fine_none
 case slice t x lo hi mx =>
   split
   · rename_i v lo hi mx hv h1 h2 h3
     exact fine_mono (hS x (by simp) v hv) fine_sliceV
   · exact fine_none
 case fieldAddr s x i => split <;> first | exact fine_fieldAddrV | exact fine_none
 case field s x i => split <;> first | exact fine_fieldV | exact fine_none
 case indexAddr t x i =>
   split
   · rename_i v i hv hi'
     exact fine_mono (hS x (by simp) v hv) fine_indexAddrV
   · exact fine_none
 case index t x i => split <;> first | exact fine_indexV | exact fine_none
 case extract x i => split <;> first | exact fine_pureR | exact fine_none
 case call c =>
   obtain ⟨callee, args, ts⟩ := c
   cases callee <;> simp only [] <;> try exact fine_none
   split
   · rename_i l hl
     refine fine_bltn fun v hv i hi => ?_
     obtain ⟨x, hx, hv'⟩ := opdL_mem hl v hv
     exact hS x (by simp only [Call.operands]; simp at hx; simp [hx]) v hv' i hi
   · exact fine_none
def One3 (i : Nat) (f : Hp -> R0) : Prop := ∀ hp v hp', f hp = some (v, hp', 3) -> ∃ x, hp' = hp.set i x /\ ∀ hp2 : Hp, hp2[i]? = hp[i]? -> f hp2 = some (v, hp2.set i x, 3)
theorem storeV_one {hp hp' : Hp} {y : Ty} {a x : V} (h : storeV hp y a x = some hp') : ∃ j ep el o, a = .ptr j ep el o /\ ∃ z, hp' = hp.set j z /\ ∀ hp2 : Hp, hp2[j]? = hp[j]? -> storeV hp2 y a x = some (hp2.set j z) := by
 unfold storeV at h
 split at h
 case h_2 => simp at h
 rename_i j ep el o
 refine ⟨j, ep, el, o, rfl, ?_⟩
 split at h
 · rename_i cs hj
   split at h <;> simp only [Option.some.injEq, reduceCtorEq] at h
   rename_i hc
   subst h
   refine ⟨_, rfl, fun hp2 e => ?_⟩
   simp only [storeV, e, hj, if_pos hc]
 · rename_i z e xs hj
   split at h
   case isFalse => cases h
   rename_i hc
   split at h
   case h_2 => cases h
   rename_i cs l h1 h2
   split at h <;> simp only [Option.some.injEq, reduceCtorEq] at h
   rename_i h3
   subst h
   refine ⟨_, rfl, fun hp2 e => ?_⟩
   simp only [storeV, e, hj, if_pos hc, h1, h2, if_pos h3]
 · simp at h
theorem srcOf_top {hp hp2 : Hp} {sz : Nat} {s : V} (h : s.top = []) : srcOf hp2 sz s = srcOf hp sz s := by
 cases s with
 | buf => simp [V.top] at h
 | ptr => rfl
 | c x => cases x <;> rfl
 | _ => rfl
theorem appendV_one {hp hp' : Hp} {sz : Nat} {d s v : V} (hs : s.top = []) (h : appendV sz hp d s = some (v, hp', 3)) : ∃ j ep off len, d = .buf j ep off len /\ ∃ z, hp' = hp.set j z /\ ∀ hp2 : Hp, hp2[j]? = hp[j]? -> appendV sz hp2 d s = some (v, hp2.set j z, 3) := by
 unfold appendV at h
 split at h
 case h_1 => simp at h
 rename_i ys hys
 split at h
 · split at h <;> simp at h
 · rename_i j ep off len
   refine ⟨j, ep, off, len, rfl, ?_⟩
   split at h
   case h_2 => simp at h
   rename_i z e xs hj
   split at h <;> simp only [Option.some.injEq, Prod.mk.injEq, reduceCtorEq, and_true] at h
   rename_i hc
   obtain ⟨rfl, rfl⟩ := h
   refine ⟨_, rfl, fun hp2 e2 => ?_⟩
   simp only [appendV, srcOf_top (hp := hp) (hp2 := hp2) hs, hys, e2, hj, if_pos hc]
 · simp at h
theorem opdL_cons {f : Fr} {x : Operand} {r : List Operand} {vs : List V} (h : opdL f (x :: r) = some vs) : ∃ v l, vs = v :: l /\ opd f x = some v /\ opdL f r = some l := by
 simp only [opdL] at h
 split at h <;> simp only [Option.some.injEq, reduceCtorEq] at h
 exact ⟨_, _, h.symm, by assumption, by assumption⟩
theorem opdL_two {f : Fr} {l : List Operand} {d s : V} (h : opdL f l = some [d, s]) : ∃ x y, l = [x, y] /\ opd f x = some d /\ opd f y = some s := by
 cases l with
 | nil => simp [opdL] at h
 | cons x r =>
   obtain ⟨v, l, e, h1, h2⟩ := opdL_cons h
   obtain ⟨rfl, rfl⟩ := List.cons.inj e
   cases r with
   | nil => simp [opdL] at h2
   | cons y r =>
     obtain ⟨v, l, e, h3, h4⟩ := opdL_cons h2
     obtain ⟨rfl, rfl⟩ := List.cons.inj e
     cases r with
     | nil => exact ⟨x, y, rfl, h1, h3⟩
     | cons z r =>
       obtain ⟨v, l, e, _⟩ := opdL_cons h4
       simp at e
theorem op0_le {T : TypeId -> Option Ty} {own : Nat -> Bool} {fr : Fr} {hp hp' : Hp} {o : Oper} {v : V} {k : Nat} (h : op0 T own fr hp o = some (v, hp', k)) : k <= 4 := by
 obtain ⟨dst, op, type, pos, after, guard⟩ := o
 revert h
 cases op
 case call c =>
   obtain ⟨callee, args, ts⟩ := c
   cases callee <;> simp only [op0]
   case value => simp
   case builtin b =>
     split
     case h_2 => simp
     unfold bltn
     cases b <;> dsimp only
     case append =>
       split
       case h_2 => simp
       unfold appB
       repeat' split
       all_goals first | (simp; done) | (unfold appendV; repeat' split)
       all_goals simp
       all_goals omega
     all_goals repeat' split
     all_goals first | (simp; done) | (simp only [Option.some.injEq, Prod.mk.injEq]; rintro ⟨_, _, rfl⟩; omega) | (simp only [pureR]; split <;> first | (simp; done) | (simp only [Option.some.injEq, Prod.mk.injEq]; rintro ⟨_, _, rfl⟩; omega))
   all_goals simp
 all_goals (simp only [op0, moveV, nilRow, allocV, boxV, buildV, laid, buildSliceV, nilCheckV, makeSliceV, sliceV, fieldAddrV, fieldV, indexAddrV, indexV, loadR, storeR, pureR])
 all_goals (repeat' split)
 all_goals first | (simp; done) | (simp only [Option.some.injEq, Prod.mk.injEq]; rintro ⟨_, _, rfl⟩; omega) | (simp only [Option.some.injEq, Prod.mk.injEq]; rintro ⟨_, _, rfl⟩; split <;> omega) | simp_all
theorem op0_one {T : TypeId -> Option Ty} {own : Nat -> Bool} {fr : Fr} {o : Oper} {i : Nat} (ht : topsO fr o = [i]) : One3 i fun hp => op0 T own fr hp o := by
 obtain ⟨dst, op, type, pos, after, guard⟩ := o
 intro hp v hp' h
 dsimp only at h ⊢
 cases op
 case store t a x =>
   simp only [op0] at h ⊢
   split at h
   case h_2 => simp at h
   rename_i va vx h1 h2
   unfold storeR at h ⊢
   split at h
   case h_1 => simp at h
   rename_i y hy
   split at h <;> simp only [Option.some.injEq, Prod.mk.injEq, reduceCtorEq, and_true] at h
   rename_i hp1 hst
   obtain ⟨rfl, rfl⟩ := h
   obtain ⟨j, ep, el, q, rfl, z, rfl, hz⟩ := storeV_one hst
   have : j = i := by
     simp [topsO, Op.operands, h1, V.top] at ht
     exact ht.1
   subst this
   exact ⟨z, rfl, fun hp2 e => by simp only [hz hp2 e]⟩
 case call c =>
   obtain ⟨callee, args, ts⟩ := c
   cases callee <;> simp only [op0] at h ⊢
   case value => simp at h
   case builtin b =>
     split at h
     case h_2 => simp at h
     rename_i l hl
     unfold bltn at h ⊢
     cases b <;> dsimp only at h ⊢
     case append =>
       split at h
       case h_2 => simp at h
       rename_i t tx d s _
       unfold appB at h ⊢
       split at h
       case h_2 => simp at h
       rename_i y yx hy hyx
       split at h
       case h_2 => simp at h
       rename_i e he
       split at h
       case h_2 => simp at h
       rename_i ye hye
       split at h
       case isFalse => simp at h
       rename_i hc
       have htop : d.top ++ s.top = [i] := by
         have := opdL_two hl
         obtain ⟨x1, x2, hx, o1, o2⟩ := this
         simpa [topsO, Op.operands, Call.operands, hx, o1, o2] using ht
       have hs : s.top = [] := by
         obtain ⟨j, ep, off, len, rfl⟩ : ∃ j ep off len, d = .buf j ep off len := by
           unfold appendV at h
           split at h
           case h_1 => simp at h
           split at h
           · split at h <;> simp at h
           · exact ⟨_, _, _, _, rfl⟩
           · simp at h
         simp [V.top] at htop
         exact htop.2
       obtain ⟨j, ep, off, len, rfl, z, rfl, hz⟩ := appendV_one hs h
       have : j = i := by simp [V.top] at htop; exact htop.1
       subst this
       exact ⟨z, rfl, fun hp2 e => by simp only [if_pos hc]; exact hz hp2 e⟩
     all_goals (exfalso; revert h; repeat' split)
     all_goals first | (simp; done) | (simp only [Option.some.injEq, Prod.mk.injEq]; rintro ⟨_, _, h⟩; omega) | (simp only [pureR]; split <;> first | (simp; done) | (simp only [Option.some.injEq, Prod.mk.injEq]; rintro ⟨_, _, h⟩; omega))
   all_goals simp at h
 all_goals (exfalso; revert h; simp only [op0, moveV, nilRow, allocV, boxV, buildV, laid, buildSliceV, nilCheckV, makeSliceV, sliceV, fieldAddrV, fieldV, indexAddrV, indexV, loadR, pureR])
 all_goals (repeat' split)
 all_goals first | (simp; done) | (simp only [Option.some.injEq, Prod.mk.injEq]; rintro ⟨_, _, h⟩; omega) | (simp only [Option.some.injEq, Prod.mk.injEq]; rintro ⟨_, _, h⟩; revert h; split <;> omega) | simp_all
theorem reach_seen {hp : Hp} : ∀ {k : Nat} {todo seen : List Nat}, seen.length <= (reach hp k todo seen).length
 | 0, todo, seen => by simp [reach]
 | k + 1, [], seen => by simp [reach]
 | k + 1, i :: todo, seen => by
   simp only [reach]
   split
   · exact reach_seen
   · exact Nat.le_trans (by simp) reach_seen
theorem reach_nil {hp : Hp} {k : Nat} {l : List Nat} (h : reach hp (k + 1) l [] = []) : l = [] := by
 cases l with
 | nil => rfl
 | cons i r =>
   have : ∀ td, reach hp k td [i] ≠ [] := fun td he => by
     have := reach_seen (hp := hp) (k := k) (todo := td) (seen := [i])
     rw [he] at this
     simp at this
   simp only [reach, List.contains_nil, Bool.false_eq_true, if_false] at h
   exact absurd h (this _)
theorem reach_none {hp : Hp} : ∀ {k : Nat}, reach hp k [] [] = []
 | 0 => rfl
 | _ + 1 => rfl
mutual
theorem ren_none {ρ : Nat -> Option Nat} : ∀ {v : V}, v.ids = [] -> v.ren ρ = v
 | .buf .., h => by simp [V.ids] at h
 | .ptr .., h => by simp [V.ids] at h
 | .yl _, h => by simp [V.ids] at h
 | .fn f caps, h => by simp only [V.ids] at h; simp only [V.ren, renL_none h]
 | .agg xs, h => by simp only [V.ids] at h; simp only [V.ren, renL_none h]
 | .tup xs, h => by simp only [V.ids] at h; simp only [V.ren, renL_none h]
 | .junk, _ => rfl
 | .undef, _ => rfl
 | .c _, _ => rfl
 | .fp _, _ => rfl
theorem renL_none {ρ : Nat -> Option Nat} : ∀ {l : List V}, idsL l = [] -> renL ρ l = l
 | [], _ => rfl
 | v :: r, h => by
   simp only [idsL, List.append_eq_nil_iff] at h
   simp only [renL, ren_none h.1, renL_none h.2]
end
theorem takeC_nil {hp : Hp} : takeC [] hp = some [] := rfl
theorem xcall_cls {byref : Nat -> Bool} {cf : CF} {g : FuncId} {args vals : List V} {fr fr' : Fr} {hp hp' : Hp} {k : Nat} (h : xcall byref cf g args fr hp = some (vals, fr', hp', k)) :
   ∃ tr : Fr -> Fr, (∀ fr2, xcall byref cf g args fr2 hp = some (vals, tr fr2, hp', k)) /\ fr' = tr fr /\ (k ≠ 4 -> ∀ f, tr f = f) /\ (∀ f f2, Feq f f2 -> Feq (tr f) (tr f2)) ∧
     (k = 0 -> hp' = hp /\ ∀ hp2 fr2, xcall byref cf g args fr2 hp2 = some (vals, fr2, hp2, 0)) /\ k ≠ 1 /\ (k = 2 -> ∃ X, hp' = hp ++ X) := by
 unfold xcall at h ⊢
 generalize hS : snapIds byref 0 args = S at h ⊢
 cases S with
 | nil =>
   simp only [List.isEmpty_nil, if_true] at h ⊢
   split at h
   case h_1 => simp at h
   rename_i h0 ht
   split at h
   case isFalse => simp at h
   rename_i hd
   split at h
   case h_1 => simp at h
   rename_i vals0 h1 hcf
   have alone : ∀ hp2 : Hp, reach hp (2 * hp.length + 40) (idsL args) [] = [] -> reach hp2 (2 * hp2.length + 40) (idsL args) [] = [] := fun hp2 he => by
     rw [reach_nil he]; exact reach_none
   split at h
   · rename_i hc
     simp only [Option.some.injEq, Prod.mk.injEq] at h
     obtain ⟨rfl, rfl, rfl, rfl⟩ := h
     refine ⟨id, fun fr2 => by simp only [if_pos hc, if_true, id, hd], rfl, fun _ _ => rfl, fun _ _ e => e, fun _ => ⟨rfl, fun hp2 fr2 => ?_⟩, by simp, by simp⟩
     have he : reach hp (2 * hp.length + 40) (idsL args) [] = [] := by
       simp only [Bool.and_eq_true, List.isEmpty_iff] at hc
       exact hc.1.1
     rw [he] at ht hcf hc
     simp only [takeC_nil, Option.some.injEq] at ht
     subst ht
     simp only [alone hp2 he, takeC_nil, distinct, if_true, hcf, if_pos hc]
   · rename_i hc
     split at h
     case isFalse => simp at h
     rename_i hlen
     simp only [Option.some.injEq, Prod.mk.injEq] at h
     obtain ⟨rfl, rfl, rfl, rfl⟩ := h
     refine ⟨id, fun fr2 => by simp only [hd, if_neg hc, if_pos hlen, if_true, id], rfl, fun _ _ => rfl, fun _ _ e => e, fun hk => ?_, ?_, fun hk => ?_⟩
     · split at hk
       case isFalse => simp at hk
       rename_i hids
       simp only [List.isEmpty_iff] at hids
       split at hk
       case isFalse => simp at hk
       rename_i h1e
       simp only [Bool.and_eq_true, List.isEmpty_iff] at h1e
       obtain ⟨rfl, hvi⟩ := h1e
       rw [hids] at ht hcf hc ⊢
       simp only [takeC_nil, Option.some.injEq] at ht
       subst ht
       refine ⟨by simp [setAll, renH], fun hp2 fr2 => ?_⟩
       simp only [alone hp2 hids, takeC_nil, distinct, if_true, hcf, if_neg hc, renL_none hvi]
       simp [setAll, renH, hvi, noYo]
     · split
       · split <;> simp
       · simp
     · split at hk
       case isFalse => simp at hk
       rename_i hids
       simp only [List.isEmpty_iff] at hids
       rw [hids]
       exact ⟨_, rfl⟩
 | cons s S =>
   simp only [List.isEmpty_cons, Bool.false_eq_true, if_false] at h ⊢
   split at h
   case h_1 => simp at h
   rename_i h0 ht
   split at h
   case isFalse => simp at h
   rename_i hd
   split at h
   case h_1 => simp at h
   rename_i vals0 h1 hcf
   split at h
   · rename_i hc
     simp only [Option.some.injEq, Prod.mk.injEq] at h
     obtain ⟨rfl, rfl, rfl, rfl⟩ := h
     exact ⟨id, fun fr2 => by simp only [hd, if_pos hc, if_true, id], rfl, fun _ _ => rfl, fun _ _ e => e, by simp, by simp, by simp⟩
   · rename_i hc
     split at h
     case isFalse => simp at h
     rename_i hlen
     simp only [Option.some.injEq, Prod.mk.injEq] at h
     obtain ⟨rfl, rfl, rfl, rfl⟩ := h
     refine ⟨frzF hp fun i => (s :: S).contains i, fun fr2 => by simp only [hd, if_neg hc, if_pos hlen, if_true], rfl, by simp, fun f f2 e t => ?_, by simp, by simp, by simp⟩
     rw [get_frzF, get_frzF, e t]
section
variable {E : Env} {cf : CF} {g : FuncId} {ops : List Oper} {n : Nat}
def stepV (E : Env) (cf : CF) (g : FuncId) (ops : List Oper) (fr : Fr) (hp : Hp) (o : Oper) : Option (V × Fr × Hp × Nat) :=
 match wantedV ops fr o with
 | none => none
 | some false => some (.undef, fr, hp, 0)
 | some true => opx E cf g fr hp o
def LookEq (ops : List Oper) (o : Oper) (f h : Fr) : Prop := ∀ t ∈ looks ops o, get f t = get h t
theorem LookEq.of_feq {o : Oper} {f h : Fr} (e : Feq f h) : LookEq ops o f h := fun t _ => e t
theorem LookEq.opd {o : Oper} {f h : Fr} (e : LookEq ops o f h) : ∀ x ∈ o.op.operands, opd f x = opd h x := fun x hx => by
 cases x with
 | tmp t => exact e t (List.mem_append_left _ (List.mem_filterMap.2 ⟨.tmp t, by simpa using hx, rfl⟩))
 | _ => rfl
theorem LookEq.wanted {o : Oper} {f h : Fr} (e : LookEq ops o f h) : wantedV ops f o = wantedV ops h o := by
 unfold wantedV
 cases hg : o.guard with
 | none => rfl
 | some jw =>
   obtain ⟨j, want⟩ := jw
   simp only
   cases hq : ops[j]? with
   | none => rfl
   | some q =>
     simp only
     cases hd : q.dst with
     | none => rfl
     | some d =>
       simp only
       rw [e d (List.mem_append_right _ (by simp [hg, hq, hd]))]
theorem xcall_le4 {byref : Nat -> Bool} {cf : CF} {g : FuncId} {args vals : List V} {fr fr' : Fr} {hp hp' : Hp} {k : Nat} (h : xcall byref cf g args fr hp = some (vals, fr', hp', k)) : k <= 4 := by
 unfold xcall at h
 dsimp only at h
 generalize (if (snapIds byref 0 args).isEmpty = true then args else frzL hp (fun i => (snapIds byref 0 args).contains i) args) = args1 at h
 generalize (if (snapIds byref 0 args).isEmpty = true then hp else frzH (fun i => (snapIds byref 0 args).contains i) hp) = hp1 at h
 split at h
 case h_1 => cases h
 split at h
 case isFalse => cases h
 split at h
 case h_1 => cases h
 split at h
 · simp only [Option.some.injEq, Prod.mk.injEq] at h
   rw [<- h.2.2.2]; split <;> omega
 · split at h <;> simp only [Option.some.injEq, Prod.mk.injEq, reduceCtorEq] at h
   rw [<- h.2.2.2]
   repeat' split
   all_goals omega
theorem refk_0 {l : List Nat} {k : Nat} (h : refk l k = 0) : k = 0 := by
 unfold refk at h
 split at h
 · split at h
   · omega
   · split at h <;> omega
 · exact h
theorem refk_2 {l : List Nat} {k : Nat} (h : refk l k = 2) : k = 2 := by
 unfold refk at h
 split at h
 · split at h
   · omega
   · split at h <;> omega
 · exact h
theorem kd_le {k : Nat} (h : k <= 4) (h1 : k ≠ 1) : kd k ≠ 1 := by
 unfold kd
 rw [if_pos (by omega)]
 exact h1
theorem refk_1 {l : List Nat} {k : Nat} (h5 : k <= 4) (h : kd (refk l k) = 1) : k = 1 := by
 unfold refk at h
 split at h
 · split at h
   · assumption
   · split at h
     · exfalso; revert h; unfold kd; rw [if_neg (by omega), if_neg (by omega)]; simp
     · revert h; unfold kd; rw [if_pos (by omega)]; exact id
 · revert h; unfold kd; rw [if_pos (by omega)]; exact id
theorem refk_r {l : List Nat} {k i : Nat} (h5 : k <= 4) (h : refk l k = 5 + 2 * i) : k = 1 /\ l = [i] := by
 unfold refk at h
 split at h
 · split at h
   · rename_i j _; obtain rfl : j = i := by omega
     exact ⟨by assumption, rfl⟩
   · split at h <;> omega
 · omega
theorem refk_w {l : List Nat} {k i : Nat} (h5 : k <= 4) (h : refk l k = 6 + 2 * i) : k = 3 /\ l = [i] := by
 unfold refk at h
 split at h
 · split at h
   · omega
   · split at h
     · rename_i j _ _; obtain rfl : j = i := by omega
       exact ⟨by assumption, rfl⟩
     · omega
 · omega
structure Cls (E : Env) (cf : CF) (g : FuncId) (ops : List Oper) (o : Oper) (fr : Fr) (hp : Hp) (v : V) (fr' : Fr) (hp' : Hp) (k : Nat) (tr : Fr -> Fr) : Prop where
 any : ∀ fr2, LookEq ops o fr fr2 -> stepV E cf g ops fr2 hp o = some (v, tr fr2, hp', k)
 this : fr' = tr fr
 same : k ≠ 4 -> ∀ f, tr f = f
 feq : ∀ f f2, Feq f f2 -> Feq (tr f) (tr f2)
 c0 : k = 0 -> hp' = hp /\ ∀ hp2, stepV E cf g ops fr hp2 o = some (v, fr, hp2, 0)
 c1 : kd k = 1 -> hp' = hp /\ ∀ hp2 : Hp, (∀ x ∈ o.op.operands, ∀ u, opd fr x = some u -> ∀ i ∈ u.top, hp[i]? ≠ none -> hp2[i]? = hp[i]?) -> stepV E cf g ops fr hp2 o = some (v, fr, hp2, k)
 c2 : k = 2 -> ∃ X, hp' = hp ++ X
 cr : ∀ i, k = 5 + 2 * i -> ∀ hp2 : Hp, hp2[i]? = hp[i]? -> stepV E cf g ops fr hp2 o = some (v, fr, hp2, k)
 cw : ∀ i, k = 6 + 2 * i -> ∃ x, hp' = hp.set i x /\ ∀ hp2 : Hp, hp2[i]? = hp[i]? -> stepV E cf g ops fr hp2 o = some (v, fr, hp2.set i x, k)
theorem stepV_cls {fr fr' : Fr} {hp hp' : Hp} {o : Oper} {v : V} {k : Nat} (h : stepV E cf g ops fr hp o = some (v, fr', hp', k)) : ∃ tr, Cls E cf g ops o fr hp v fr' hp' k tr := by
 unfold stepV at h
 split at h
 · simp at h
 · rename_i hw
   simp only [Option.some.injEq, Prod.mk.injEq] at h
   obtain ⟨rfl, rfl, rfl, rfl⟩ := h
   exact ⟨id, fun fr2 e => by simp only [stepV, <- e.wanted, hw, id], rfl, fun _ _ => rfl, fun _ _ e => e, fun _ => ⟨rfl, fun hp2 => by simp only [stepV, hw]⟩, by simp [kd], by simp, fun i hi => by omega, fun i hi => by omega⟩
 · rename_i hw
   have base : (∀ f a t, o.op ≠ .call ⟨.value f, a, t⟩) -> ∃ tr, Cls E cf g ops o fr hp v fr' hp' k tr := by
     intro hne
     have hop : ∀ fr hp, opx E cf g fr hp o = match op0 E.T (E.own g) fr hp o with | some (v, hp', k) => some (v, fr, hp', refk (topsO fr o) k) | none => none := by
       intro fr hp
       unfold opx
       split
       · rename_i f a t ho; exact absurd ho (hne _ _ _)
       · rfl
     rw [hop] at h
     split at h <;> simp only [Option.some.injEq, Prod.mk.injEq, reduceCtorEq] at h
     rename_i v0 hp0 k0 h0
     obtain ⟨rfl, rfl, rfl, rfl⟩ := h
     have htop : ∀ fr2, LookEq ops o fr fr2 -> topsO fr2 o = topsO fr o := by
       intro fr2 e
       unfold topsO
       have : ∀ l : List Operand, (∀ x ∈ l, opd fr x = opd fr2 x) -> (l.flatMap fun x => match opd fr2 x with | some v => v.top | none => []) = l.flatMap fun x => match opd fr x with | some v => v.top | none => [] := by
         intro l
         induction l with
         | nil => intro _; rfl
         | cons x r ih => intro hl; simp only [List.flatMap_cons, hl x (by simp), ih fun y hy => hl y (by simp [hy])]
       exact this _ fun x hx => e.opd x (by simpa using hx)
     have hst : ∀ fr2 hp2 v hp' k, LookEq ops o fr fr2 -> op0 E.T (E.own g) fr hp2 o = some (v, hp', k) -> stepV E cf g ops fr2 hp2 o = some (v, fr2, hp', refk (topsO fr o) k) := by
       intro fr2 hp2 v hp' k e hv
       simp only [stepV, <- e.wanted, hw, hop]
       rw [<- op0_congr e.opd, hv]
       simp only [htop fr2 e]
     obtain ⟨f0, f1, f2⟩ := fine_op0 (T := E.T) (own := E.own g) (fr := fr) (o := o) (S := topsO fr o)
       (fun x hx v hv i hi => List.mem_flatMap.2 ⟨x, by simpa using hx, by simp only [hv]; exact hi⟩) hp v0 hp0 k0 h0
     have hk5 : k0 <= 4 := op0_le h0
     have hS : ∀ hp2 : Hp, (∀ x ∈ o.op.operands, ∀ u, opd fr x = some u -> ∀ i ∈ u.top, hp[i]? ≠ none -> hp2[i]? = hp[i]?) -> ∀ i ∈ topsO fr o, hp[i]? ≠ none -> hp2[i]? = hp[i]? := by
       intro hp2 hs i hi
       obtain ⟨x, hx, hi⟩ := List.mem_flatMap.1 hi
       split at hi
       · rename_i u hu; exact hs x (by simpa using hx) u hu i hi
       · simp at hi
     refine ⟨id, fun fr2 e => hst fr2 hp _ _ _ e h0, rfl, fun _ _ => rfl, fun _ _ e => e, fun hk => ?_, fun hk => ?_, fun hk => ?_, fun i hi => ?_, fun i hi => ?_⟩
     · obtain rfl : k0 = 0 := refk_0 hk
       obtain ⟨q1, q2⟩ := f0 rfl
       exact ⟨q1, fun hp2 => by have := hst fr hp2 _ _ _ (fun _ _ => rfl) (q2 hp2); rwa [hk] at this⟩
     · obtain rfl : k0 = 1 := refk_1 hk5 hk
       obtain ⟨q1, q2⟩ := f1 rfl
       exact ⟨q1, fun hp2 hs => hst fr hp2 _ _ _ (fun _ _ => rfl) (q2 hp2 (hS hp2 hs))⟩
     · obtain rfl : k0 = 2 := refk_2 hk
       exact f2 rfl
     · obtain ⟨e1, e2⟩ := refk_r hk5 hi
       subst e1
       obtain ⟨q1, q2⟩ := f1 rfl
       intro hp2 hs
       refine hst fr hp2 _ _ _ (fun _ _ => rfl) (q2 hp2 fun j hj _ => ?_)
       rw [e2] at hj
       simp only [List.mem_singleton] at hj
       rw [hj, hs]
     · obtain ⟨e1, e2⟩ := refk_w hk5 hi
       subst e1
       obtain ⟨x, q1, q2⟩ := op0_one e2 hp v0 hp0 h0
       exact ⟨x, q1, fun hp2 hs => hst fr hp2 _ _ _ (fun _ _ => rfl) (q2 hp2 hs)⟩
   by_cases hcall : ∃ f a t, o.op = .call ⟨.value f, a, t⟩
   · obtain ⟨f, a, t, ho⟩ := hcall
     have hop : ∀ fr hp, opx E cf g fr hp o = match opd fr f, opdL fr a.toList with
         | some (.fn h caps), some l => match xcall (E.byref h) cf h (mapTL C.fix (E.fx h) (l ++ caps)) fr hp with
           | some (vals, fr', hp', k) => some (tupV vals, fr', hp', k)
           | none => none
         | some (.yl i), some l => match hp[i]? with
           | some (.yo r s) => if yoHd r l = true /\ soleYo hp i = true then some (.b (yoAns r s), fr, hp.set i (.yo r.tail s), 4) else none
           | _ => none
         | _, _ => none := by
       intro fr hp
       simp only [opx, ho]
       generalize opd fr f = x
       generalize opdL fr a.toList = y
       cases x with
       | none => rfl
       | some x => cases y with
         | none => cases x <;> rfl
         | some y => cases x <;> try rfl
     have hopd : ∀ {fr2}, LookEq ops o fr fr2 -> opd fr f = opd fr2 f /\ opdL fr a.toList = opdL fr2 a.toList := by
       intro fr2 e
       have := e.opd
       rw [ho] at this
       simp only [Op.operands, Call.operands] at this
       exact ⟨this f (by simp), opdL_congr fun x hx => this x (by simp at hx; simp [hx])⟩
     rw [hop] at h
     split at h
     case h_3 => simp at h
     case h_2 =>
       rename_i i l h1 h2
       split at h
       case h_2 => simp at h
       rename_i r s hi
       split at h <;> simp only [Option.some.injEq, Prod.mk.injEq, reduceCtorEq] at h
       rename_i hc
       obtain ⟨rfl, rfl, rfl, rfl⟩ := h
       refine ⟨id, fun fr2 e => ?_, rfl, fun _ _ => rfl, fun _ _ e => e, by simp, by simp [kd], by simp, fun i hi => by omega, fun i hi => by omega⟩
       obtain ⟨e1, e2⟩ := hopd e
       simp only [stepV, <- e.wanted, hw, hop, <- e1, <- e2, h1, h2, hi, if_pos hc, id]
     rename_i hf caps l h1 h2
     split at h <;> simp only [Option.some.injEq, Prod.mk.injEq, reduceCtorEq] at h
     rename_i vals0 fr0 hp0 k0 hx
     obtain ⟨rfl, rfl, rfl, rfl⟩ := h
     obtain ⟨tr, t1, t2, t3, t4, t5, t6, t7⟩ := xcall_cls hx
     have t8 := xcall_le4 hx
     refine ⟨tr, fun fr2 e => ?_, t2, t3, t4, fun hk => ⟨(t5 hk).1, fun hp2 => ?_⟩, fun hk => absurd hk (kd_le t8 t6), t7, fun i hi => by omega, fun i hi => by omega⟩
     · obtain ⟨e1, e2⟩ := hopd e
       simp only [stepV, <- e.wanted, hw, hop, <- e1, <- e2, h1, h2, t1 fr2]
     · simp only [stepV, hw, hop, h1, h2, (t5 hk).2 hp2 fr]
   · exact base fun f a t ho => hcall ⟨f, a, t, ho⟩
theorem apart_spec {o q : Oper} (h : apart ops o q = true) : (∀ d, o.dst = some d -> d ∉ looks ops q) /\ (∀ d, o.dst = some d -> q.dst ≠ some d) /\ (∀ d, q.dst = some d -> d ∉ looks ops o) := by
 refine ⟨fun d hd => ?_, fun d hd => ?_, fun d hd => ?_⟩ <;> simp [apart, hd] at h
 · exact h.1.1
 · exact h.1.2
 · exact h.2
theorem put_look {o : Oper} {d : Option Nat} {v : V} {f f' : Fr} (hp : put n d v f = some f') (h : ∀ t, d = some t -> t ∉ looks ops o) : LookEq ops o f f' := fun t ht =>
 (put_get hp fun e => h t e ht).symm
theorem put_put {d e : Option Nat} {v u : V} {f f1 f2 : Fr} (h1 : put n d v f = some f1) (h2 : put n e u f1 = some f2) (hne : ∀ t, d = some t -> e ≠ some t) :
   ∃ f3 f4, put n e u f = some f3 /\ put n d v f3 = some f4 /\ Feq f2 f4 := by
 cases d with
 | none =>
   simp only [put, Option.some.injEq] at h1
   subst h1
   exact ⟨f2, f2, h2, rfl, Feq.refl _⟩
 | some a => cases e with
   | none =>
     simp only [put, Option.some.injEq] at h2
     subst h2
     exact ⟨f, f1, rfl, h1, Feq.refl _⟩
   | some b =>
     have hab : a ≠ b := fun e => hne a rfl (by rw [e])
     simp only [put] at h1 h2 ⊢
     split at h1 <;> simp only [Option.some.injEq, reduceCtorEq] at h1
     rename_i ha
     subst h1
     split at h2 <;> simp only [Option.some.injEq, reduceCtorEq] at h2
     rename_i hb
     subst h2
     refine ⟨_, _, if_pos hb, if_pos ha, fun t => ?_⟩
     simp only [get]
     by_cases h1 : t = a
     · subst h1; simp [hab]
     · simp [h1]
def RunI (E : Env) (cf : CF) (g : FuncId) (ops : List Oper) (n : Nat) (κ : Nat -> Nat) : List Nat -> Fr -> Hp -> Fr -> Hp -> Prop
 | [], fr, H, fr', H' => Feq fr fr' /\ H = H'
 | i :: R, fr, H, fr', H' => ∃ o v fr1 H1 fr2, ops[i]? = some o /\ stepV E cf g ops fr H o = some (v, fr1, H1, κ i) /\ put n o.dst v fr1 = some fr2 /\ RunI E cf g ops n κ R fr2 H1 fr' H'
variable {κ : Nat -> Nat}
theorem RunI.feq : ∀ {R : List Nat} {fr f fr' : Fr} {H H' : Hp}, Feq fr f -> RunI E cf g ops n κ R fr H fr' H' -> RunI E cf g ops n κ R f H fr' H'
 | [], fr, f, fr', H, H', e, h => ⟨e.symm.trans h.1, h.2⟩
 | i :: R, fr, f, fr', H, H', e, h => by
   obtain ⟨o, v, fr1, H1, fr2, h1, h2, h3, h4⟩ := h
   obtain ⟨tr, c⟩ := stepV_cls h2
   have e1 : Feq fr1 (tr f) := by rw [c.this]; exact c.feq _ _ e
   obtain ⟨f2, k1, k2⟩ := put_feq e1 h3
   exact ⟨o, v, tr f, H1, f2, h1, c.any f (LookEq.of_feq e), k1, h4.feq k2⟩
theorem runI_of {rest : List Oper} : ∀ {i : Nat} {fr fr' : Fr} {H H' : Hp} {ks : List Nat}, ops.drop i = rest -> runOps E cf g n ops rest fr H = some (fr', H', ks) -> (∀ j, j < rest.length -> κ (i + j) = ks.getD j 4) -> RunI E cf g ops n κ (List.range' i rest.length) fr H fr' H' := by
 induction rest with
 | nil =>
   intro i fr fr' H H' ks _ h _
   simp only [runOps, Option.some.injEq, Prod.mk.injEq] at h
   exact ⟨by rw [h.1]; exact Feq.refl _, h.2.1⟩
 | cons o rest ih =>
   intro i fr fr' H H' ks hd h hκ
   have hoi : ops[i]? = some o := by
     have : (ops.drop i)[0]? = some o := by rw [hd]; rfl
     simpa using this
   have hd' : ops.drop (i + 1) = rest := by rw [<- List.drop_drop, hd]; rfl
   simp only [List.length_cons, List.range'_succ]
   simp only [runOps] at h
   have hκ0 := hκ 0 (by simp)
   have go : ∀ {ks2 : List Nat} {k : Nat}, ks = k :: ks2 -> κ i = k /\ ∀ j, j < rest.length -> κ (i + 1 + j) = ks2.getD j 4 := by
     intro ks2 k e
     subst e
     refine ⟨by simpa using hκ0, fun j hj => ?_⟩
     have := hκ (j + 1) (by simp; omega)
     rw [show i + 1 + j = i + (j + 1) by omega, this]
     rfl
   split at h
   · simp at h
   · rename_i hw
     split at h
     case h_2 => simp at h
     rename_i fr1 hp
     split at h <;> simp only [Option.some.injEq, Prod.mk.injEq, reduceCtorEq] at h
     rename_i fr2 H2 ks2 hrest
     obtain ⟨rfl, rfl, hk⟩ := h
     obtain ⟨k1, k2⟩ := go hk.symm
     exact ⟨o, .undef, fr, H, fr1, hoi, by simp only [stepV, hw, k1], hp, ih hd' hrest k2⟩
   · rename_i hw
     split at h
     case h_2 => simp at h
     rename_i v fr1 H1 k1 hx
     split at h
     case h_2 => simp at h
     rename_i fr2 hp
     split at h <;> simp only [Option.some.injEq, Prod.mk.injEq, reduceCtorEq] at h
     rename_i fr3 H3 ks3 hrest
     obtain ⟨rfl, rfl, hk⟩ := h
     obtain ⟨k1', k2⟩ := go hk.symm
     exact ⟨o, v, fr1, H1, fr2, hoi, by simp only [stepV, hw, hx, k1'], hp, ih hd' hrest k2⟩
theorem kd_odd (i : Nat) : kd (5 + 2 * i) = 1 := by
 unfold kd
 rw [if_neg (by omega), if_pos (by omega)]
theorem kd_0 {k : Nat} (h : kd k = 0) : k = 0 := by
 unfold kd at h
 split at h
 · exact h
 · split at h <;> omega
theorem kd_2 {k : Nat} (h : kd k = 2) : k = 2 := by
 unfold kd at h
 split at h
 · exact h
 · split at h <;> omega
theorem pairOk_cases {a b : Nat} (h : pairOk a b = true) : a = 0 \/ b = 0 \/ (kd a = 1 /\ kd b = 1) \/ (kd a = 1 /\ b = 2) \/ (a = 2 /\ kd b = 1) \/ ∃ i j, (a = 5 + 2 * i \/ a = 6 + 2 * i) /\ (b = 5 + 2 * j \/ b = 6 + 2 * j) /\ i ≠ j := by
 simp only [pairOk, Bool.or_eq_true, Bool.and_eq_true, decide_eq_true_eq, Bool.not_eq_true', decide_eq_false_iff_not] at h
 rcases h with h | h
 · have : kd a = 0 \/ kd b = 0 \/ (kd a = 1 /\ kd b = 1) \/ (kd a = 1 /\ kd b = 2) \/ (kd a = 2 /\ kd b = 1) := by
     generalize kd a = x at h ⊢
     generalize kd b = y at h ⊢
     unfold pair0 at h
     split at h <;> simp_all
   rcases this with h | h | h | ⟨h1, h2⟩ | ⟨h1, h2⟩
   · exact .inl (kd_0 h)
   · exact .inr (.inl (kd_0 h))
   · exact .inr (.inr (.inl h))
   · exact .inr (.inr (.inr (.inl ⟨h1, kd_2 h2⟩)))
   · exact .inr (.inr (.inr (.inr (.inl ⟨kd_2 h1, h2⟩))))
 · exact .inr (.inr (.inr (.inr (.inr ⟨(a - 5) / 2, (b - 5) / 2, by omega, by omega, by omega⟩))))
theorem pairOk_4 {b : Nat} : ¬ pairOk 4 b = true := by
 simp only [pairOk, kd, pair0]; simp
theorem pairOk_4' {a : Nat} : ¬ pairOk a 4 = true := by
 simp only [pairOk, Nat.not_le.2 (show 4 < 5 by omega), decide_false, Bool.and_false, Bool.false_and, Bool.or_false]
 show ¬ pair0 (kd a) 4 = true
 generalize kd a = x
 unfold pair0
 split <;> simp_all
theorem swap {oj oi : Oper} {kj ki : Nat} {vj vi : V} {fr frj1 frj fr1 fr2 : Fr} {H Hj H1 : Hp} (hj : stepV E cf g ops fr H oj = some (vj, frj1, Hj, kj)) (hjp : put n oj.dst vj frj1 = some frj)
   (hi : stepV E cf g ops frj Hj oi = some (vi, fr1, H1, ki)) (hip : put n oi.dst vi fr1 = some fr2) (hk : pairOk kj ki = true) (hap : apart ops oj oi = true)
   (hcl : kd ki = 1 -> ∀ x ∈ oi.op.operands, ∀ u, opd fr x = some u -> ∀ i ∈ u.top, i < H.length) :
   ∃ fri Hi fr2', stepV E cf g ops fr H oi = some (vi, fr, Hi, ki) /\ put n oi.dst vi fr = some fri /\ stepV E cf g ops fri Hi oj = some (vj, fri, H1, kj) /\ put n oj.dst vj fri = some fr2' /\ Feq fr2 fr2' := by
 obtain ⟨a1, a2, a3⟩ := apart_spec hap
 obtain ⟨trj, cj⟩ := stepV_cls hj
 obtain ⟨tri, ci⟩ := stepV_cls hi
 have hk' := pairOk_cases hk
 have hkj : kj ≠ 4 := fun e => pairOk_4 (by rwa [e] at hk)
 have hki : ki ≠ 4 := fun e => pairOk_4' (by rwa [e] at hk)
 have e1 : frj1 = fr := cj.this.trans (cj.same hkj _)
 have e2 : fr1 = frj := ci.this.trans (ci.same hki _)
 subst e1; subst e2
 obtain ⟨fri, fr2', p1, p2, p3⟩ := put_put hjp hip a2
 have lji : LookEq ops oi fr1 frj1 := fun t ht => put_get hjp fun e => a1 t e ht
 have lij : LookEq ops oj frj1 fri := put_look p1 a3
 -- the second one, before the first one's value is laid
 have hi' : stepV E cf g ops frj1 Hj oi = some (vi, frj1, H1, ki) := by
   have := ci.any frj1 lji
   rwa [ci.same hki] at this
 obtain ⟨tri', ci'⟩ := stepV_cls hi'
 have fin : ∀ {Hi : Hp}, stepV E cf g ops frj1 H oi = some (vi, frj1, Hi, ki) -> stepV E cf g ops frj1 Hi oj = some (vj, frj1, H1, kj) →
     ∃ fri Hi fr2', stepV E cf g ops frj1 H oi = some (vi, frj1, Hi, ki) /\ put n oi.dst vi frj1 = some fri /\ stepV E cf g ops fri Hi oj = some (vj, fri, H1, kj) /\ put n oj.dst vj fri = some fr2' /\ Feq fr2 fr2' := by
   intro Hi q1 q2
   obtain ⟨tr, c⟩ := stepV_cls q2
   have := c.any fri lij
   rw [c.same hkj] at this
   exact ⟨fri, Hi, fr2', q1, p1, this, p2, p3⟩
 rcases hk' with rfl | rfl | ⟨k1, k2⟩ | ⟨k1, rfl⟩ | ⟨rfl, k2⟩ | ⟨a, b, h1, h2, hab⟩
 · obtain ⟨q1, q2⟩ := cj.c0 rfl
   subst q1
   exact fin hi' (q2 H1)
 · obtain ⟨q1, q2⟩ := ci'.c0 rfl
   subst q1
   exact fin (q2 H) hj
 · obtain ⟨q1, q2⟩ := cj.c1 k1
   obtain ⟨q3, q4⟩ := ci'.c1 k2
   subst q3; subst q1
   exact fin hi' hj
 · obtain ⟨q1, q2⟩ := cj.c1 k1
   subst q1
   obtain ⟨X, rfl⟩ := ci'.c2 rfl
   refine fin hi' (q2 _ fun x hx u hu i hi hne => ?_)
   have hlt : i < Hj.length := by
     rcases Nat.lt_or_ge i Hj.length with h | h
     · exact h
     · exact absurd (List.getElem?_eq_none h) hne
   exact List.getElem?_append_left hlt
 · obtain ⟨X, hX⟩ := cj.c2 rfl
   obtain ⟨q3, q4⟩ := ci'.c1 k2
   subst q3; subst hX
   refine fin (q4 H fun x hx u hu i hi hne => ?_) hj
   exact (List.getElem?_append_left (hcl k2 x hx u hu i hi)).symm
 · have hne : ∀ {X : Hp} {x : O} {i j : Nat}, i ≠ j -> (X.set i x)[j]? = X[j]? := fun h => List.getElem?_set_ne h
   rcases h1 with h1 | h1 <;> rcases h2 with h2 | h2
   · obtain ⟨q1, q2⟩ := cj.c1 (by rw [h1]; exact kd_odd a)
     obtain ⟨q3, q4⟩ := ci'.c1 (by rw [h2]; exact kd_odd b)
     subst q3; subst q1
     exact fin hi' hj
   · obtain ⟨q1, q2⟩ := cj.c1 (by rw [h1]; exact kd_odd a)
     subst q1
     obtain ⟨x, rfl, q4⟩ := ci'.cw b h2
     exact fin hi' (cj.cr a h1 _ (hne (Ne.symm hab)))
   · obtain ⟨q3, q4⟩ := ci'.c1 (by rw [h2]; exact kd_odd b)
     subst q3
     obtain ⟨x, rfl, q2⟩ := cj.cw a h1
     exact fin (ci'.cr b h2 H (hne hab).symm) hj
   · obtain ⟨x, rfl, q2⟩ := cj.cw a h1
     obtain ⟨y, rfl, q4⟩ := ci'.cw b h2
     refine fin (q4 H (hne hab).symm) ?_
     rw [List.set_comm _ _ hab]
     exact q2 _ (hne (Ne.symm hab))
theorem to_front {i : Nat} {oi : Oper} (hoi : ops[i]? = some oi) {post : List Nat} {fr' : Fr} {H' : Hp} : ∀ {pre : List Nat} {fr : Fr} {H : Hp}, RunI E cf g ops n κ (pre ++ i :: post) fr H fr' H' →
   (∀ j ∈ pre, ∀ oj, ops[j]? = some oj -> pairOk (κ j) (κ i) = true /\ apart ops oj oi = true) -> (kd (κ i) = 1 -> ∀ x ∈ oi.op.operands, ∀ u, opd fr x = some u -> ∀ i ∈ u.top, i < H.length) →
   RunI E cf g ops n κ (i :: (pre ++ post)) fr H fr' H'
 | [], fr, H, h, _, _ => h
 | j :: pre, fr, H, h, hp, hcl => by
   obtain ⟨oj, vj, frj1, Hj, frj, h1, h2, h3, h4⟩ := h
   obtain ⟨q1, q2⟩ := hp j (by simp) oj h1
   obtain ⟨trj, cj⟩ := stepV_cls h2
   have hcl' : kd (κ i) = 1 -> ∀ x ∈ oi.op.operands, ∀ u, opd frj x = some u -> ∀ i ∈ u.top, i < Hj.length := by
     intro hi x hx u hu k hk
     have hq := pairOk_cases q1
     have hkj : κ j ≠ 4 := fun e => pairOk_4 (by rwa [e] at q1)
     have e1 : frj1 = fr := cj.this.trans (cj.same hkj _)
     subst e1
     have lji : LookEq ops oi frj frj1 := fun t ht => put_get h3 fun e => (apart_spec q2).1 t e ht
     rw [lji.opd x hx] at hu
     refine Nat.lt_of_lt_of_le (hcl hi x hx u hu k hk) ?_
     rcases hq with e | e | e | e | e | ⟨a, b, e, _⟩
     · rw [(cj.c0 e).1]; exact Nat.le_refl _
     · rw [e] at hi; simp [kd] at hi
     · rw [(cj.c1 e.1).1]; exact Nat.le_refl _
     · rw [(cj.c1 e.1).1]; exact Nat.le_refl _
     · obtain ⟨X, rfl⟩ := cj.c2 e.1; simp
     · rcases e with e | e
       · rw [(cj.c1 (by rw [e]; exact kd_odd a)).1]; exact Nat.le_refl _
       · obtain ⟨x, rfl, _⟩ := cj.cw a e; simp
   obtain ⟨oi', vi, fr1, H1, fr2, k1, k2, k3, k4⟩ := to_front hoi h4 (fun k hk => hp k (by simp [hk])) hcl'
   rw [hoi] at k1
   simp only [Option.some.injEq] at k1
   subst k1
   obtain ⟨fri, Hi, fr2', s1, s2, s3, s4, s5⟩ := swap h2 h3 k2 k3 q1 q2 hcl
   exact ⟨oi, vi, fr, Hi, fri, hoi, s1, s2, oj, vj, fri, H1, fr2', h1, s3, s4, k4.feq s5⟩
theorem top_lt {w : World} {A : Nat -> Prop} {bl : Bl} {H : Hp} {x : V} {r : Value} (h : RepV w A bl H x r) : ∀ i ∈ x.top, i < H.length := by
 cases h <;> intro i hi <;> simp [V.top] at hi <;> subst hi <;> assumption
end
section
variable {P : Program} {w0 : World} {A0 : Nat -> Prop} {bl0 : Bl} {H0 : Hp} {z : Rnd} {K : World -> Prop} {n : Nat} {E : Env} {cf : CF} {g : FuncId} {ops : Array Oper} {κ : Nat -> Nat}
theorem Inv.drew {w : World} {A : Nat -> Prop} {bl : Bl} {fr : Fr} {H : Hp} {a : Act} (h : Inv w0 A0 bl0 H0 z n w A bl fr H a) : Inv w0 A0 bl0 H0 z n w.drew (fun b => A b \/ False) bl fr H a := by
 obtain ⟨h1, h2⟩ := grow h.rep (Grow.drew w) (N := fun _ => False) (fun b hb => hb.elim)
 exact h.step h1 (h.frm.mono h2) (h.le.trans h2) ((Grow.drew w).evo (fun b hb => .inl hb) (fun b hb => hb.elim .inl False.elim))
theorem step_wp (hcf : CFok P K cf) (hcx : CtxOk P K bl0.cx) (hT : ∀ t y, E.T t = some y -> tyOf P t = some y) {i : Nat} {o : Oper} (ho : ops[i]? = some o) {fr fr1 fr2 : Fr} {H H1 : Hp} {v : V} {k : Nat} (hs : stepV E cf g ops.toList fr H o = some (v, fr1, H1, k)) (hp : put n o.dst v fr1 = some fr2)
   {w : World} {A : Nat -> Prop} {bl : Bl} {a : Act} (hI : Inv w0 A0 bl0 H0 z n w A bl fr H a) {Q : Exit -> Act -> World -> Prop} {κ2 : Act -> World -> Prop} (hK : ∀ w' A' bl' a', Inv w0 A0 bl0 H0 z n w' A' bl' fr2 H1 a' -> κ2 a' w') : wpOpIn z.F 0 P ops Q i κ2 a w := by
 unfold wpOpIn
 simp only [ho]
 unfold stepV at hs
 split at hs
 · simp at hs
 · rename_i hw
   simp only [Option.some.injEq, Prod.mk.injEq] at hs
   obtain ⟨rfl, rfl, rfl, _⟩ := hs
   rw [wanted_of hI.frm hw]
   simp only [Bool.false_eq_true, if_false]
   exact ⟨fun _ _ => trivial, hK _ _ _ _ (hI.put .undef hp)⟩
 · rename_i hw
   rw [wanted_of hI.frm hw]
   simp only [if_true]
   exact opx_sound hcf hcx hT hI hs fun r w' A' bl' hI' hv => hK _ _ _ _ (hI'.put hv hp)
def Closed (pre : List (List Nat)) (listed : Array Bool) : Prop := ∀ i, listed.getD i false = true -> ∀ p ∈ pre.getD i [], listed.getD p false = true
theorem getD_set {l : Array Bool} {i j : Nat} (hi : i < l.size) (b : Bool) : (l.setIfInBounds i true).getD j b = if j = i then true else l.getD j b := by
 simp only [Array.getD_eq_getD_getElem?, Array.getElem?_setIfInBounds]
 by_cases h : i = j
 · subst h; simp [hi]
 · simp [h, Ne.symm h]
theorem any_order (hcf : CFok P K cf) (hcx : CtxOk P K bl0.cx) (hT : ∀ t y, E.T t = some y -> tyOf P t = some y) {pre : List (List Nat)} (hback : backOk ops.toList = true) (hahead : aheadOk ops.toList pre = true)
   {Q : Exit -> Act -> World -> Prop} {fr' : Fr} {H' : Hp} (hQ : ∀ w' A' bl' a', Inv w0 A0 bl0 H0 z n w' A' bl' fr' H' a' -> Q .normal a' w') :
   ∀ (fuel : Nat) (R : List Nat) (listed : Array Bool) {fr : Fr} {H : Hp} {w : World} {A : Nat -> Prop} {bl : Bl} {a : Act}, R.length <= fuel -> listed.size = ops.size -> R.Pairwise (· < ·) -> (∀ i, i ∈ R ↔ i < ops.size /\ listed.getD i true = false) -> Closed pre listed →
     (∀ i j oi oj, i ∈ R -> j ∈ R -> i < j -> ops[i]? = some oi -> ops[j]? = some oj -> i ∈ pre.getD j [] \/ (pairOk (κ i) (κ j) = true /\ apart ops.toList oi oj = true)) →
     RunI E cf g ops.toList n κ R fr H fr' H' -> Inv w0 A0 bl0 H0 z n w A bl fr H a -> wpAnyIn z.F 0 P .any ops Q fuel listed a w := by
 -- what is ready
 have hready : ∀ {listed : Array Bool} {i : Nat}, i ∈ Region.ready .any ops listed ↔ i < ops.size /\ listed.getD i true = false /\ ∃ o, ops[i]? = some o /\ ∀ e ∈ o.after.toList, Region.binds .any e = true -> listed.getD e.on false = true := by
   intro listed i
   simp only [Region.ready, List.mem_filter, List.mem_range, Bool.and_eq_true, Bool.not_eq_true']
   constructor
   · rintro ⟨h1, h2, h3⟩
     refine ⟨h1, h2, ops[i], by simp [h1], fun e he hb => ?_⟩
     rw [Array.getElem?_eq_getElem h1] at h3
     simp only [Option.map_some, Option.getD_some, Array.all_eq_true'] at h3
     have := h3 e (by simpa using he)
     simp only [hb, Bool.not_true, Bool.false_or] at this
     exact this
   · rintro ⟨h1, h2, o, h3, h4⟩
     refine ⟨h1, h2, ?_⟩
     rw [h3]
     simp only [Option.map_some, Option.getD_some, Array.all_eq_true']
     intro e he
     cases hb : Region.binds .any e with
     | false => simp
     | true => rw [h4 e (by simpa using he) hb]; simp
 -- while something is left, something is ready
 have hsome : ∀ {listed : Array Bool} {i : Nat} {R : List Nat}, listed.size = ops.size -> (i :: R).Pairwise (· < ·) -> (∀ j, j ∈ i :: R ↔ j < ops.size /\ listed.getD j true = false) -> i ∈ Region.ready .any ops listed := by
   intro listed i R hsz hpw hR
   obtain ⟨h1, h2⟩ := (hR i).1 (by simp)
   refine hready.2 ⟨h1, h2, ops[i], by simp [h1], fun e he hb => ?_⟩
   have hlt : e.on < i := by
     simp only [backOk, List.all_eq_true, List.mem_range] at hback
     have := hback i (by simpa using h1)
     rw [show ops.toList[i]? = some ops[i] by simp [h1]] at this
     simp only [List.all_eq_true] at this
     have := this e he
     simpa [hb] using this
   have hnot : ¬ (e.on ∈ i :: R) := fun hm => by
     rcases List.mem_cons.1 hm with h | h
     · omega
     · have := (List.pairwise_cons.1 hpw).1 _ h; omega
   have : ¬ (e.on < ops.size /\ listed.getD e.on true = false) := fun h => hnot ((hR _).2 h)
   have hl : e.on < listed.size := by omega
   have h3 : listed.getD e.on true = true := by
     cases h : listed.getD e.on true with
     | true => rfl
     | false => exact absurd ⟨by omega, h⟩ this
   simpa [Array.getD, hl] using h3
 have hend : ∀ {R : List Nat} {listed : Array Bool}, Region.ready .any ops listed = [] -> listed.size = ops.size -> R.Pairwise (· < ·) -> (∀ i, i ∈ R ↔ i < ops.size /\ listed.getD i true = false) -> R = [] := by
   intro R listed h hsz hpw hR
   cases R with
   | nil => rfl
   | cons i R => have := hsome hsz hpw hR; rw [h] at this; simp at this
 have hdone : ∀ {listed : Array Bool} {fr : Fr} {H : Hp} {w : World} {A : Nat -> Prop} {bl : Bl} {a : Act}, RunI E cf g ops.toList n κ [] fr H fr' H' -> Inv w0 A0 bl0 H0 z n w A bl fr H a -> Q .normal a w := by
   intro listed fr H w A bl a hr hI
   obtain ⟨e, rfl⟩ := hr
   exact hQ _ _ _ _ (hI.frame fun t v ht => by rw [e t]; exact ht)
 intro fuel
 induction fuel with
 | zero =>
   intro R listed fr H w A bl a hlen hsz hpw hR hcl hpair hrun hI
   have : R = [] := List.eq_nil_of_length_eq_zero (by omega)
   subst this
   refine ⟨?_, hdone (listed := listed) hrun hI⟩
   cases hr : Region.ready .any ops listed with
   | nil => rfl
   | cons i l =>
     have : i ∈ Region.ready .any ops listed := by rw [hr]; simp
     have := hready.1 this
     have := (hR i).2 ⟨this.1, this.2.1⟩
     simp at this
 | succ fuel ih =>
   intro R listed fr H w A bl a hlen hsz hpw hR hcl hpair hrun hI
   refine ⟨fun hr => ?_, fun i hi => ?_⟩
   · have := hend hr hsz hpw hR
     subst this
     exact hdone (listed := listed) hrun hI
   · obtain ⟨h1, h2, o, h3, h4⟩ := hready.1 hi
     obtain ⟨s, t, rfl⟩ := List.append_of_mem ((hR i).2 ⟨h1, h2⟩)
     -- whatever must come ahead is listed
     have hpre : ∀ p ∈ pre.getD i [], listed.getD p false = true := by
       intro p hp
       simp only [aheadOk, List.all_eq_true, List.mem_range] at hahead
       have := hahead i (by simpa using h1) p hp
       rw [show ops.toList[i]? = some o by simpa using h3] at this
       simp only [List.any_eq_true, Bool.and_eq_true, Bool.or_eq_true, beq_iff_eq] at this
       obtain ⟨e, he, hb, hq⟩ := this
       rcases hq with rfl | hq
       · exact h4 e he hb
       · exact hcl _ (h4 e he hb) p (by simpa using hq)
     have hpw' := List.pairwise_append.1 hpw
     have hmove : RunI E cf g ops.toList n κ (i :: (s ++ t)) fr H fr' H' := by
       refine to_front (by simpa using h3) hrun (fun j hj oj hoj => ?_) fun _ x hx u hu k hk => ?_
       · have hji : j < i := hpw'.2.2 j hj i (by simp)
         rcases hpair j i oj o (by simp [hj]) (by simp) hji (by simpa using hoj) h3 with h | h
         · have hl := hpre j h
           have := ((hR j).1 (by simp [hj])).2
           have hj2 := ((hR j).1 (by simp [hj])).1
           simp [Array.getD, show j < listed.size by omega] at hl this
           rw [hl] at this
           simp at this
         · exact h
       · exact top_lt (opd_rep hI.frm hu) k hk
     obtain ⟨o', v, fr1, H1, fr2, k1, k2, k3, k4⟩ := hmove
     have : o' = o := by simpa [h3] using k1.symm
     subst this
     have hi' : i < listed.size := by omega
     refine step_wp hcf hcx hT h3 k2 k3 hI fun w' A' bl' a' hI' => ih (s ++ t) (listed.setIfInBounds i true) (by simp at hlen ⊢; omega) (by simpa using hsz) ?_ (fun j => ?_) (fun j hj p hp => ?_) (fun x y ox oy hx hy => hpair x y ox oy (by rcases List.mem_append.1 hx with h | h <;> simp [h]) (by rcases List.mem_append.1 hy with h | h <;> simp [h])) k4 hI'
     · exact List.pairwise_append.2 ⟨hpw'.1, (List.pairwise_cons.1 hpw'.2.1).2, fun x hx y hy => hpw'.2.2 x hx y (by simp [hy])⟩
     · rw [getD_set hi']
       have hj := hR j
       have hni : i ∉ s ++ t := by
         intro hm
         rcases List.mem_append.1 hm with hm | hm
         · have := hpw'.2.2 i hm i (by simp); omega
         · have := (List.pairwise_cons.1 hpw'.2.1).1 i hm; omega
       by_cases hji : j = i
       · subst hji; simp only [if_true, Bool.true_eq_false, and_false, iff_false]; exact hni
       · rw [if_neg hji, <- hj]; simp [hji]
     · rw [getD_set hi'] at hj ⊢
       split
       · rfl
       · split at hj
         · rename_i e; subst e; exact hpre p hp
         · exact hcl j hj p hp
theorem runOps_cons {o : Oper} {all r : List Oper} {fr f : Fr} {hp h : Hp} {ks : List Nat} {E : Env} {cf : CF} {g : FuncId} {n : Nat} (hg : o.guard = none) (hr : runOps E cf g n all (o :: r) fr hp = some (f, h, ks)) :
   ∃ v fr1 hp1 k fr2 ks', opx E cf g fr hp o = some (v, fr1, hp1, k) /\ put n o.dst v fr1 = some fr2 /\ runOps E cf g n all r fr2 hp1 = some (f, h, ks') /\ ks = k :: ks' := by
 simp only [runOps, wantedV, hg] at hr
 split at hr
 case h_2 => simp at hr
 rename_i v fr1 hp1 k hx
 split at hr
 case h_2 => simp at hr
 rename_i fr2 hp2
 split at hr <;> simp only [Option.some.injEq, Prod.mk.injEq, reduceCtorEq] at hr
 rename_i f3 h3 k3 hr3
 obtain ⟨rfl, rfl, rfl⟩ := hr
 exact ⟨v, fr1, hp1, k, fr2, k3, hx, hp2, hr3, rfl⟩
theorem loadV_ext {hp X : Hp} {y : Ty} {a v : V} (h : loadV hp y a = some v) : loadV (hp ++ X) y a = some v := by
 unfold loadV at h ⊢
 split at h
 · exact h
 · rename_i i ep el o
   cases hi : hp[i]? with
   | none => simp [hi] at h
   | some ob => rw [List.getElem?_append_left (List.getElem?_eq_some_iff.1 hi).1, hi]; rw [hi] at h; exact h
 · simp at h
theorem idsL_mem : ∀ {l : List V} {i : Nat}, i ∈ idsL l ↔ ∃ v ∈ l, i ∈ v.ids
 | [], i => by simp [idsL]
 | v :: r, i => by simp [idsL, idsL_mem (l := r)]
theorem cells_ids {x : V} {i : Nat} (h : i ∈ idsL x.cells) : i ∈ x.ids := by
 cases x <;> simp [V.cells, idsL] at h <;> simpa [V.ids] using h
theorem storeV_at {hp hp' : Hp} {y : Ty} {i : Nat} {o : O} {x : V} (h : storeV hp y (.ptr i 0 0 0) x = some hp') (ho : hp[i]? = some o) : ∃ ob, hp' = hp.set i ob /\ (∀ k ∈ ob.ids, k ∈ o.ids \/ k ∈ x.ids) /\ ∀ (hp2 : Hp) (j : Nat), hp2[j]? = some o -> storeV hp2 y (.ptr j 0 0 0) x = some (hp2.set j ob) := by
 simp only [storeV, ho] at h
 split at h
 · rename_i cs hcs
   simp only [Option.some.injEq] at hcs; subst hcs
   split at h <;> simp only [Option.some.injEq, reduceCtorEq] at h
   rename_i hc
   refine ⟨_, h.symm, fun k hk => ?_, fun hp2 j hj => by simp only [storeV, hj, if_pos hc]⟩
   simp only [O.ids, splice] at hk ⊢
   obtain ⟨v, hv, hk⟩ := idsL_mem.1 hk
   rcases List.mem_append.1 hv with hv | hv
   · rcases List.mem_append.1 hv with hv | hv
     · exact .inl (idsL_mem.2 ⟨v, List.mem_of_mem_take hv, hk⟩)
     · exact .inr (cells_ids (idsL_mem.2 ⟨v, hv, hk⟩))
   · exact .inl (idsL_mem.2 ⟨v, List.mem_of_mem_drop hv, hk⟩)
 · rename_i z e xs hcs
   simp only [Option.some.injEq] at hcs; subst hcs
   split at h
   case isFalse => cases h
   rename_i hc
   split at h
   case h_2 => cases h
   rename_i cs l h1 h2
   split at h <;> simp only [Option.some.injEq, reduceCtorEq] at h
   rename_i h3
   exact ⟨_, h.symm, fun k hk => by simp [O.ids] at hk, fun hp2 j hj => by simp only [storeV, hj, if_pos hc, h1, h2, if_pos h3]⟩
 · simp at h
theorem allocV_one {T : TypeId -> Option Ty} {t : TypeId} {H H1 : Hp} {v : V} {ow : Bool} {k : Nat} (h : allocV T ow H t = some (v, H1, k)) :
   (∃ o, o.ids = [] /\ ∀ H : Hp, allocV T ow H t = some (.ptr H.length 0 0 0, H ++ [o], 2)) \/ (v = .ptr (H.length + 1) 0 0 0 /\ H1.length = H.length + 2 /\ ow = true) := by
 unfold allocV at h ⊢
 have hz : ∀ l : List C, (O.box (l.map .c)).ids = [] := by
   intro l
   simp only [O.ids]
   induction l with
   | nil => rfl
   | cons x r ih => simp [idsL, V.ids, ih]
 cases hy : T t with
 | none => simp [hy] at h
 | some y =>
   simp only [hy] at h ⊢
   cases hk : y.k <;> simp only [hk] at h ⊢
   case array n e =>
     split at h
     · rename_i hc; exact .inl ⟨_, rfl, fun H => if_pos hc⟩
     · cases h
   case slice e =>
     cases ow with
     | false => exact .inl ⟨_, hz _, fun H => rfl⟩
     | true =>
       simp only [if_true] at h
       split at h
       case h_2 => cases h
       split at h <;> simp only [Option.some.injEq, Prod.mk.injEq, reduceCtorEq] at h
       exact .inr ⟨h.1.symm, by rw [<- h.2.1]; simp, rfl⟩
   all_goals exact .inl ⟨_, hz _, fun H => rfl⟩
theorem rep_ids {w : World} {A : Nat -> Prop} {bl : Bl} {H : Hp} {v : V} {u : Value} (h : RepV w A bl H v u) : ∀ i ∈ v.ids, i < H.length := by
 have key : ∀ (xs : List V), (∀ (j : Nat) (x : V), xs[j]? = some x -> ∀ i ∈ x.ids, i < H.length) -> ∀ i ∈ idsL xs, i < H.length := by
   intro xs
   induction xs with
   | nil => intro _ i hi; simp [idsL] at hi
   | cons x r ih =>
     intro hx i hi
     simp only [idsL, List.mem_append] at hi
     rcases hi with hi | hi
     · exact hx 0 x rfl i hi
     · exact ih (fun j y hj => hx (j + 1) y (by simpa using hj)) i hi
 induction h with
 | junk | undef | c | fp => intro i hi; simp [V.ids] at hi
 | buf i ep off len a l cap h1 => intro j hj; simp [V.ids] at hj; omega
 | ptr i ep el o a h1 => intro j hj; simp [V.ids] at hj; omega
 | yl i b h1 => intro j hj; simp [V.ids] at hj; omega
 | fn f caps vs h1 _ ih =>
   refine key caps fun j x hj => ?_
   have : j < vs.size := h1 ▸ (List.getElem?_eq_some_iff.1 hj).1
   exact ih j x _ hj (Array.getElem?_eq_getElem this)
 | agg xs vs h1 _ ih =>
   refine key xs fun j x hj => ?_
   have : j < vs.size := h1 ▸ (List.getElem?_eq_some_iff.1 hj).1
   exact ih j x _ hj (Array.getElem?_eq_getElem this)
 | tup xs vs h1 _ ih =>
   refine key xs fun j x hj => ?_
   have : j < vs.size := h1 ▸ (List.getElem?_eq_some_iff.1 hj).1
   exact ih j x _ hj (Array.getElem?_eq_getElem this)
mutual
theorem ren_fix {ρ : Nat -> Option Nat} : ∀ {v : V}, (∀ i ∈ v.ids, ρ i = some i) -> v.ren ρ = v
 | .buf i .., h => by simp only [V.ren, h i (by simp [V.ids])]
 | .ptr i .., h => by simp only [V.ren, h i (by simp [V.ids])]
 | .yl i, h => by simp only [V.ren, h i (by simp [V.ids])]
 | .fn f caps, h => by simp only [V.ids] at h; simp only [V.ren, renL_fix h]
 | .agg xs, h => by simp only [V.ids] at h; simp only [V.ren, renL_fix h]
 | .tup xs, h => by simp only [V.ids] at h; simp only [V.ren, renL_fix h]
 | .junk, _ => rfl
 | .undef, _ => rfl
 | .c _, _ => rfl
 | .fp _, _ => rfl
theorem renL_fix {ρ : Nat -> Option Nat} : ∀ {l : List V}, (∀ i ∈ idsL l, ρ i = some i) -> renL ρ l = l
 | [], _ => rfl
 | v :: r, h => by
   simp only [idsL, List.mem_append] at h
   simp only [renL, ren_fix fun i hi => h i (.inl hi), renL_fix fun i hi => h i (.inr hi)]
end
theorem get_app {f1 f2 : Fr} {t : Nat} : get (f1 ++ f2) t = match get f1 t with | some v => some v | none => get f2 t := by
 induction f1 with
 | nil => rfl
 | cons p r ih =>
   obtain ⟨k, v⟩ := p
   simp only [List.cons_append, get]
   split
   · rfl
   · exact ih
theorem get_ifs {b : Bool} {d t : Nat} {v : V} : get (if b = true then [(d, v)] else []) t = if b = true /\ t = d then some v else none := by
 cases b <;> simp [get]
theorem idx_range {N i : Nat} {r : List Nat} (h : i < N) : ∀ {s : Nat}, idx (List.range' s N ++ r) (s + i) = some i := by
 induction N generalizing i with
 | zero => omega
 | succ N ih =>
   intro s
   simp only [List.range'_succ, List.cons_append, idx]
   by_cases h0 : i = 0
   · subst h0; simp
   · rw [if_neg (by omega)]
     obtain ⟨k, rfl⟩ : ∃ k, i = k + 1 := ⟨i - 1, by omega⟩
     have := ih (i := k) (by omega) (s := s + 1)
     rw [show s + (k + 1) = s + 1 + k by omega, this]
theorem idx_skip {N : Nat} {r : List Nat} {i k : Nat} (hk : idx r i = some k) : ∀ {s : Nat}, (i < s \/ s + N <= i) -> idx (List.range' s N ++ r) i = some (N + k) := by
 induction N with
 | zero => intro s _; simpa using hk
 | succ N ih =>
   intro s h
   simp only [List.range'_succ, List.cons_append, idx]
   rw [if_neg (by omega), ih (s := s + 1) (by omega)]
   simp only [Option.some.injEq]; omega
theorem take_map {keep : List Nat} {hp : Hp} : ∀ {l : List Nat} {R : Hp}, l.length = R.length -> (∀ (k i : Nat) (o : O), l[k]? = some i -> R[k]? = some o -> ∃ o' : O, hp[i]? = some o' /\ o'.ren (idx keep) = o) -> take keep hp l = some R
 | [], R, hl, _ => by simp at hl; simp [take, List.eq_nil_of_length_eq_zero hl.symm]
 | i :: r, [], hl, _ => by simp at hl
 | i :: r, o :: R, hl, h => by
   obtain ⟨o', h1, h2⟩ := h 0 i o rfl rfl
   simp only [take, h1, take_map (l := r) (R := R) (by simpa using hl) fun k j q hk hq => h (k + 1) j q (by simpa using hk) (by simpa using hq), h2]
theorem O.ren_fix {ρ : Nat -> Option Nat} {o : O} (h : ∀ i ∈ o.ids, ρ i = some i) : o.ren ρ = o := by
 cases o <;> simp only [O.ren]
 simp only [O.ids] at h
 rw [renL_fix h]
theorem O.ids_lt {w : World} {A : Nat -> Prop} {bl : Bl} {H : Hp} (hH : RepH w A bl H) {i : Nat} {o : O} (hi : H[i]? = some o) : ∀ k ∈ o.ids, k < H.length := by
 intro k hk
 cases o with
 | box cs =>
   simp only [O.ids] at hk
   obtain ⟨b, arr, t, h1, h2, h3, h4⟩ := hH.obj i _ hi
   obtain ⟨v, hv, hk⟩ := idsL_mem.1 hk
   obtain ⟨j, hj⟩ := List.getElem?_of_mem hv
   have hjl : j < arr.size := by rw [h3]; exact (List.getElem?_eq_some_iff.1 hj).1
   exact rep_ids (h4 j v _ hj (Array.getElem?_eq_getElem hjl)) k hk
 | _ => simp [O.ids] at hk
section
variable {E : Env} {cf : CF} {g : FuncId} {o : Oper} {fr fr1 : Fr} {hp hp1 : Hp} {v : V} {k t p d : Nat}
theorem opx_load (e : o.op = .load t (.tmp p)) (h : opx E cf g fr hp o = some (v, fr1, hp1, k)) : ∃ vp y, get fr p = some vp /\ E.T t = some y /\ loadV hp y vp = some v /\ fr = fr1 /\ hp = hp1 := by
 unfold opx at h
 rw [e] at h
 simp only [op0, e, opd] at h
 cases hg : get fr p with
 | none => simp [hg] at h
 | some vp =>
   simp only [hg, loadR] at h
   cases hy : E.T t with
   | none => simp [hy] at h
   | some y =>
     simp only [hy] at h
     cases hl : loadV hp y vp with
     | none => simp [hl] at h
     | some x =>
       simp only [hl, Option.some.injEq, Prod.mk.injEq] at h
       exact ⟨vp, y, rfl, rfl, by rw [hl, h.1], h.2.1, h.2.2.1⟩
theorem opx_load' {vp : V} {y : Ty} (e : o.op = .load t (.tmp p)) (h1 : get fr p = some vp) (h2 : E.T t = some y) (h3 : loadV hp y vp = some v) : ∃ k, opx E cf g fr hp o = some (v, fr, hp, k) := by
 unfold opx
 rw [e]
 simp only [op0, e, opd, h1, loadR, h2, h3]
 exact ⟨_, rfl⟩
theorem opx_alloc (e : o.op = .alloc t) (h : opx E cf g fr hp o = some (v, fr1, hp1, k)) : ∃ k', allocV E.T (ownD (E.own g) o.dst) hp t = some (v, hp1, k') /\ fr = fr1 := by
 unfold opx at h
 rw [e] at h
 simp only [op0, e] at h
 split at h <;> simp only [Option.some.injEq, Prod.mk.injEq, reduceCtorEq] at h
 rename_i v1 h1 k1 hx
 obtain ⟨rfl, rfl, rfl, _⟩ := h
 exact ⟨k1, hx, rfl⟩
theorem opx_alloc' {k' : Nat} (e : o.op = .alloc t) (h : allocV E.T (ownD (E.own g) o.dst) hp t = some (v, hp1, k')) : ∃ k, opx E cf g fr hp o = some (v, fr, hp1, k) := by
 unfold opx
 rw [e]
 simp only [op0, e, h]
 exact ⟨_, rfl⟩
theorem opx_store (e : o.op = .store t (.tmp p) (.tmp d)) (h : opx E cf g fr hp o = some (v, fr1, hp1, k)) : ∃ vp vx y, get fr p = some vp /\ get fr d = some vx /\ E.T t = some y /\ storeV hp y vp vx = some hp1 /\ fr = fr1 /\ v = .undef /\ k = refk (topsO fr o) 3 := by
 unfold opx at h
 rw [e] at h
 simp only [op0, e, opd] at h
 cases hg : get fr p with
 | none => simp [hg] at h
 | some vp =>
   cases hx : get fr d with
   | none => simp [hg, hx] at h
   | some vx =>
     simp only [hg, hx, storeR] at h
     cases hy : E.T t with
     | none => simp [hy] at h
     | some y =>
       simp only [hy] at h
       cases hl : storeV hp y vp vx with
       | none => simp [hl] at h
       | some x =>
         simp only [hl, Option.some.injEq, Prod.mk.injEq] at h
         obtain ⟨rfl, rfl, rfl, rfl⟩ := h
         exact ⟨vp, vx, y, rfl, rfl, rfl, hl, rfl, rfl, rfl⟩
theorem opx_store' {vp vx : V} {y : Ty} (e : o.op = .store t (.tmp p) (.tmp d)) (h1 : get fr p = some vp) (h2 : get fr d = some vx) (h3 : E.T t = some y) (h4 : storeV hp y vp vx = some hp1) : ∃ k, opx E cf g fr hp o = some (.undef, fr, hp1, k) := by
 unfold opx
 rw [e]
 simp only [op0, e, opd, h1, h2, storeR, h3, h4]
 exact ⟨_, rfl⟩
theorem stepV_of {all : List Oper} {r : V × Fr × Hp × Nat} (hg : o.guard = none) (h : opx E cf g fr hp o = some r) : stepV E cf g all fr hp o = some r := by
 simp only [stepV, wantedV, hg, h]
end
theorem ready_iff {ops : Array Oper} {listed : Array Bool} {i : Nat} : i ∈ Region.ready .any ops listed ↔ i < ops.size /\ listed.getD i true = false /\ ∃ o, ops[i]? = some o /\ ∀ j ∈ bindsOf o, listed.getD j false = true := by
 simp only [Region.ready, List.mem_filter, List.mem_range, Bool.and_eq_true, Bool.not_eq_true']
 constructor
 · rintro ⟨h1, h2, h3⟩
   refine ⟨h1, h2, ops[i], by simp [h1], fun j hj => ?_⟩
   rw [Array.getElem?_eq_getElem h1] at h3
   simp only [Option.map_some, Option.getD_some, Array.all_eq_true'] at h3
   simp only [bindsOf, List.mem_filterMap] at hj
   obtain ⟨e, he, hb⟩ := hj
   split at hb <;> simp only [Option.some.injEq, reduceCtorEq] at hb
   rename_i hbe
   subst hb
   have := h3 e (by simpa using he)
   simpa [hbe] using this
 · rintro ⟨h1, h2, o, h3, h4⟩
   refine ⟨h1, h2, ?_⟩
   rw [h3]
   simp only [Option.map_some, Option.getD_some, Array.all_eq_true']
   intro e he
   cases hb : Region.binds .any e with
   | false => simp
   | true =>
     have := h4 e.on (List.mem_filterMap.2 ⟨e, by simpa using he, by simp [hb]⟩)
     simp [this]
section
variable {d0 d1 d2 d3 N : Nat} {v : V} {fr : Fr} {f0 f1 f2 f3 q : Bool}
end
theorem ofCells_ids {b : Bool} {l : List V} {v : V} (h : ofCells b l = some v) : ∀ i ∈ v.ids, i ∈ idsL l := by
 intro i hi
 unfold ofCells at h
 split at h
 · simp only [Option.some.injEq] at h; subst h; simpa [V.ids] using hi
 · split at h <;> simp only [Option.some.injEq, reduceCtorEq] at h
   subst h; simp [idsL, hi]
theorem part_ids {cs l : List V} {o n : Nat} (h : part cs o n = some l) : ∀ i ∈ idsL l, i ∈ idsL cs := by
 intro i hi
 unfold part at h
 split at h <;> simp only [Option.some.injEq, reduceCtorEq] at h
 subst h
 obtain ⟨v, hv, hi⟩ := idsL_mem.1 hi
 exact idsL_mem.2 ⟨v, List.mem_of_mem_drop (List.mem_of_mem_take hv), hi⟩
theorem idsL_c (l : List C) : idsL (l.map V.c) = [] := by
 induction l with
 | nil => rfl
 | cons x r ih => simp [idsL, V.ids, ih]
theorem loadV_ids {H : Hp} {y : Ty} {a v : V} {N : Nat} (h : loadV H y a = some v) (ho : ∀ (i : Nat) (o : O), H[i]? = some o -> ∀ k ∈ o.ids, k < N) : ∀ i ∈ v.ids, i < N := by
 unfold loadV at h
 split at h
 · split at h
   case h_2 => cases h
   intro i hi
   have := ofCells_ids h i hi
   rw [idsL_c] at this; simp at this
 · rename_i i0 ep0 el o
   split at h
   · rename_i cs hj
     split at h
     case isFalse => cases h
     split at h
     case h_2 => cases h
     rename_i l hp
     intro i hi
     exact ho _ _ hj i (part_ids hp i (ofCells_ids h i hi))
   · split at h
     case isFalse => cases h
     rename_i z e xs hj he
     have elm : loadE y xs el o = some v -> ∀ i ∈ v.ids, i < N := by
       intro h
       unfold loadE at h
       split at h
       case h_2 => cases h
       split at h
       case h_2 => cases h
       intro i hi
       have := ofCells_ids h i hi
       rw [idsL_c] at this; simp at this
     unfold loadM at h
     split at h
     · split at h
       · simp only [Option.some.injEq] at h
         subst h
         intro i hi
         simp only [V.ids] at hi
         rw [idsL_c] at hi; simp at hi
       · exact elm h
     · exact elm h
   · cases h
 · cases h
theorem push_far {w : World} {A : Nat -> Prop} {bl : Bl} {H : Hp} (hH : RepH w A bl H) {b : Nat} (o : O) (hb : b < w.heap.size) (hA : ¬ A b) (hL : ¬ Liv bl H b) (ho : RepO w A (upd bl H.length (some (b, 0))) (H ++ [o]) H.length o) :
   RepH w A (upd bl H.length (some (b, 0))) (H ++ [o]) /\ Le w A bl H w A (upd bl H.length (some (b, 0))) (H ++ [o]) := by
 have g : Grow w w := Grow.refl w
 have hl := le_push hH g (A' := A) (fun b hb => hb) o (some (b, 0))
 have old : ∀ {i}, alive (H ++ [o]) i -> i = H.length \/ (i < H.length /\ alive H i) := by
   intro i ha
   have := alive_lt ha
   simp at this
   rcases Nat.lt_or_ge i H.length with h | h
   · obtain ⟨o', h1, h2⟩ := ha
     exact .inr ⟨h, o', by rwa [List.getElem?_append_left h] at h1, h2⟩
   · exact .inl (by omega)
 have hard : Ard w w A bl (upd bl H.length (some (b, 0))) := ⟨rfl, fun b hb => hH.alt b hb, fun c hc => (hH.xlt c hc).2, fun c hc => rfl, g.size, g.os, g.tape, g.output⟩
 refine ⟨⟨fun i o' hi => ?_, fun i j b1 d d' hij ha ha' hb1 hb1' => ?_, fun i b1 d ha hb1 => ?_, hard.alt, fun b hb => hH.xlt b hb, fun i b1 d ha hb1 hX => ?_, hH.base.mono hl.A hl.C⟩, hl⟩
 · rcases Nat.lt_or_ge i H.length with h | h
   · rw [List.getElem?_append_left h] at hi
     cases hlv : o'.live with
     | false => cases o' <;> simp [O.live] at hlv; trivial
     | true => exact (hH.obj i o' hi).mono hl hard (upd_other (Nat.ne_of_lt h)) (fun b d hb => rfl) (fun b d hb => (hH.lt i b d ⟨o', hi, hlv⟩ hb).2)
   · have : i = H.length := by
       have := (List.getElem?_eq_some_iff.1 hi).1
       simp at this; omega
     subst this
     simp at hi
     subst hi
     exact ho
 · rcases old ha with rfl | ⟨h, ha⟩ <;> rcases old ha' with rfl | ⟨h', ha'⟩
   · exact hij rfl
   · rw [upd_same] at hb1; rw [upd_other (Nat.ne_of_lt h')] at hb1'
     simp only [Option.some.injEq, Prod.mk.injEq] at hb1
     obtain ⟨rfl, _⟩ := hb1
     exact hL (.inl ⟨j, d', ha', hb1'⟩)
   · rw [upd_same] at hb1'; rw [upd_other (Nat.ne_of_lt h)] at hb1
     simp only [Option.some.injEq, Prod.mk.injEq] at hb1'
     obtain ⟨rfl, _⟩ := hb1'
     exact hL (.inl ⟨i, d, ha, hb1⟩)
   · rw [upd_other (Nat.ne_of_lt h)] at hb1; rw [upd_other (Nat.ne_of_lt h')] at hb1'
     exact hH.inj i j b1 d d' hij ha ha' hb1 hb1'
 · rcases old ha with rfl | ⟨h, ha⟩
   · rw [upd_same] at hb1
     simp only [Option.some.injEq, Prod.mk.injEq] at hb1
     obtain ⟨rfl, _⟩ := hb1
     exact ⟨hb, hA⟩
   · rw [upd_other (Nat.ne_of_lt h)] at hb1
     exact hH.lt _ _ _ ha hb1
 · have hX : bl.X b1 := hX
   rcases old ha with rfl | ⟨h, ha⟩
   · rw [upd_same] at hb1
     simp only [Option.some.injEq, Prod.mk.injEq] at hb1
     obtain ⟨rfl, _⟩ := hb1
     exact hL (.inr hX)
   · rw [upd_other (Nat.ne_of_lt h)] at hb1
     exact hH.xinj _ _ _ ha hb1 hX
theorem step_wp2 (hcf : CFok P K cf) (hcx : CtxOk P K bl0.cx) (hT : ∀ t y, E.T t = some y -> tyOf P t = some y) {i : Nat} {o : Oper} (ho : ops[i]? = some o) {fr fr1 fr2 : Fr} {H H1 : Hp} {v : V} {k : Nat} (hs : stepV E cf g ops.toList fr H o = some (v, fr1, H1, k)) (hp : put n o.dst v fr1 = some fr2)
   {w : World} {A : Nat -> Prop} {bl : Bl} {a : Act} (hI : Inv w0 A0 bl0 H0 z n w A bl fr H a) {Q : Exit -> Act -> World -> Prop} {κ2 : Act -> World -> Prop} (hK : ∀ w' A' bl' r, Inv w0 A0 bl0 H0 z n w' A' bl' fr2 H1 (a.put o.dst r) -> κ2 (a.put o.dst r) w') : wpOpIn z.F 0 P ops Q i κ2 a w := by
 unfold wpOpIn
 simp only [ho]
 unfold stepV at hs
 split at hs
 · simp at hs
 · rename_i hw
   simp only [Option.some.injEq, Prod.mk.injEq] at hs
   obtain ⟨rfl, rfl, rfl, _⟩ := hs
   rw [wanted_of hI.frm hw]
   simp only [Bool.false_eq_true, if_false]
   exact ⟨fun _ _ => trivial, hK _ _ _ _ (hI.put .undef hp)⟩
 · rename_i hw
   rw [wanted_of hI.frm hw]
   simp only [if_true]
   exact opx_sound hcf hcx hT hI hs fun r w' A' bl' hI' hv => hK _ _ _ _ (hI'.put hv hp)
theorem put_get_other {a : Act} {o : Option Nat} {r : Value} {d : Nat} (h : o ≠ some d) : (a.put o r).tmps[d]? = a.tmps[d]? := by
 cases o with
 | none => rfl
 | some t =>
   simp only [Act.put]
   rw [Array.getElem?_setIfInBounds_ne (fun e => h (by rw [e]))]
theorem take_ready {listed : Array Bool} {i : Nat} : i ∈ Region.ready .any ops listed ↔ i < ops.size /\ listed.getD i true = false /\ ∃ o, ops[i]? = some o /\ ∀ e ∈ o.after.toList, Region.binds .any e = true -> listed.getD e.on false = true := by
 simp only [Region.ready, List.mem_filter, List.mem_range, Bool.and_eq_true, Bool.not_eq_true']
 constructor
 · rintro ⟨h1, h2, h3⟩
   refine ⟨h1, h2, ops[i], by simp [h1], fun e he hb => ?_⟩
   rw [Array.getElem?_eq_getElem h1] at h3
   simp only [Option.map_some, Option.getD_some, Array.all_eq_true'] at h3
   have := h3 e (by simpa using he)
   simp only [hb, Bool.not_true, Bool.false_or] at this
   exact this
 · rintro ⟨h1, h2, o, h3, h4⟩
   refine ⟨h1, h2, ?_⟩
   rw [h3]
   simp only [Option.map_some, Option.getD_some, Array.all_eq_true']
   intro e he
   cases hb : Region.binds .any e with
   | false => simp
   | true => rw [h4 e (by simpa using he) hb]; simp
theorem first_ready (hback : backOk ops.toList = true) {listed : Array Bool} {i : Nat} {R : List Nat} (hsz : listed.size = ops.size) (hpw : (i :: R).Pairwise (· < ·)) (hR : ∀ j, j ∈ i :: R ↔ j < ops.size /\ listed.getD j true = false) : i ∈ Region.ready .any ops listed := by
 obtain ⟨h1, h2⟩ := (hR i).1 (by simp)
 refine take_ready.2 ⟨h1, h2, ops[i], by simp [h1], fun e he hb => ?_⟩
 have hlt : e.on < i := by
   simp only [backOk, List.all_eq_true, List.mem_range] at hback
   have := hback i (by simpa using h1)
   rw [show ops.toList[i]? = some ops[i] by simp [h1]] at this
   simp only [List.all_eq_true] at this
   have := this e he
   simpa [hb] using this
 have hnot : ¬ (e.on ∈ i :: R) := fun hm => by
   rcases List.mem_cons.1 hm with h | h
   · omega
   · have := (List.pairwise_cons.1 hpw).1 _ h; omega
 have : ¬ (e.on < ops.size /\ listed.getD e.on true = false) := fun h => hnot ((hR _).2 h)
 have hl : e.on < listed.size := by omega
 have h3 : listed.getD e.on true = true := by
   cases h : listed.getD e.on true with
   | true => rfl
   | false => exact absurd ⟨by omega, h⟩ this
 simpa [Array.getD, hl] using h3
theorem ahead_listed {pre : List (List Nat)} (hahead : aheadOk ops.toList pre = true) {listed : Array Bool} (hcl : Closed pre listed) {i : Nat} (hi : i ∈ Region.ready .any ops listed) : ∀ p ∈ pre.getD i [], listed.getD p false = true := by
 obtain ⟨h1, h2, o, h3, h4⟩ := take_ready.1 hi
 intro p hp
 simp only [aheadOk, List.all_eq_true, List.mem_range] at hahead
 have := hahead i (by simpa using h1) p hp
 rw [show ops.toList[i]? = some o by simpa using h3] at this
 simp only [List.any_eq_true, Bool.and_eq_true, Bool.or_eq_true, beq_iff_eq] at this
 obtain ⟨e, he, hb, hq⟩ := this
 rcases hq with rfl | hq
 · exact h4 e he hb
 · exact hcl _ (h4 e he hb) p (by simpa using hq)
theorem left_after {listed : Array Bool} {i : Nat} {s t : List Nat} (hsz : listed.size = ops.size) (hpw : (s ++ i :: t).Pairwise (· < ·)) (hR : ∀ j, j ∈ s ++ i :: t ↔ j < ops.size /\ listed.getD j true = false) :
   (listed.setIfInBounds i true).size = ops.size /\ (s ++ t).Pairwise (· < ·) /\ ∀ j, j ∈ s ++ t ↔ j < ops.size /\ (listed.setIfInBounds i true).getD j true = false := by
 have hpw' := List.pairwise_append.1 hpw
 have hi := (hR i).1 (by simp)
 have hi' : i < listed.size := by omega
 refine ⟨by simpa using hsz, List.pairwise_append.2 ⟨hpw'.1, (List.pairwise_cons.1 hpw'.2.1).2, fun x hx y hy => hpw'.2.2 x hx y (by simp [hy])⟩, fun j => ?_⟩
 rw [getD_set hi']
 have hj := hR j
 have hni : i ∉ s ++ t := by
   intro hm
   rcases List.mem_append.1 hm with hm | hm
   · have := hpw'.2.2 i hm i (by simp); omega
   · have := (List.pairwise_cons.1 hpw'.2.1).1 i hm; omega
 by_cases hji : j = i
 · subst hji; simp only [if_true, Bool.true_eq_false, and_false, iff_false]; exact hni
 · rw [if_neg hji, <- hj]; simp [hji]
theorem closed_after {pre : List (List Nat)} {listed : Array Bool} {i : Nat} (hi' : i < listed.size) (hcl : Closed pre listed) (hp : ∀ p ∈ pre.getD i [], listed.getD p false = true) : Closed pre (listed.setIfInBounds i true) := by
 intro j hj p hpp
 rw [getD_set hi'] at hj ⊢
 split
 · rfl
 · split at hj
   · rename_i e; subst e; exact hp p hpp
   · exact hcl j hj p hpp
theorem early_wp (hT : ∀ t y, E.T t = some y -> tyOf P t = some y) {j d : Nat} {t : TypeId} {oj : Oper} {y : Ty} (hj : ops[j]? = some oj) (hop : oj.op = .alloc t) (hd : oj.dst = some d) (hg : oj.guard = none) (hy : E.T t = some y) (hz : y.zero.length = y.size) (hdn : d < n)
   {fr : Fr} {H : Hp} {w : World} {A : Nat -> Prop} {bl : Bl} {a : Act} (hI : Inv w0 A0 bl0 H0 z n w A bl fr H a) {Q : Exit -> Act -> World -> Prop} {κ2 : Act -> World -> Prop}
   (hK : ∀ w' A' bl' a' b us, (∀ w A bl H, RepL w A bl H (y.zero.map .c) us.toList) -> us.size = y.size -> (∀ x ∈ z.far, x.1 ≠ b) -> Inv w0 A0 bl0 H0 ⟨z.L, z.ro, (b, .cells us t (0, 0)) :: z.far⟩ n w' A' bl' ((d, .junk) :: fr) H a' -> a'.tmps[d]? = some (.pointer (some ⟨b, 0, none⟩)) -> κ2 a' w') :
   wpOpIn z.F 0 P ops Q j κ2 a w := by
 obtain ⟨i, dd, hi⟩ := get_wf hT hy
 obtain ⟨zz, _, hz1, _, _⟩ := hi.zero hz
 have hz2 : ∀ w A bl H, RepL w A bl H (y.zero.map .c) zz.cells.toList /\ zz.cells.size = y.size := fun w A bl H => by
   obtain ⟨z', h1, h2, h3⟩ := zero_of (w := w) (A := A) (bl := bl) (H := H) hi hz
   rw [hz1] at h1
   simp only [Option.some.injEq] at h1
   subst h1
   exact ⟨h2, h3⟩
 unfold wpOpIn
 simp only [hj]
 have hw : Region.wanted oj (yielded ops a.tmps) = true := by simp [Region.wanted, hg]
 rw [hw]
 simp only [if_true]
 refine ⟨fun _ _ => trivial, ?_⟩
 rw [Oper.semAt_eq _ _ _ (fun c hc => by rw [hop] at hc; cases hc)]
 have hrun : (execOp a.eval oj).run P w = .ok (.value (.pointer (some ⟨w.heap.size, 0, none⟩))) (w.alloc (.cells zz.cells t)) := by
   simp [execOp, hop, run_allocV hi.info hz1]
 rw [hrun]
 refine hK _ (fun b => A b \/ False) bl _ w.heap.size zz.cells (fun w A bl H => (hz2 w A bl H).1) (hz2 w A bl H).2 (fun x hx e => by have := (Array.getElem?_eq_some_iff.1 (hI.far x hx).2.1).1; omega) ?_ ?_
 · obtain ⟨h1, h2⟩ := grow hI.rep (Grow.alloc w (.cells zz.cells t)) (N := fun _ => False) (fun b hb => hb.elim)
   have hI1 := hI.step h1 (hI.frm.mono h2) (hI.le.trans h2) ((Grow.alloc w (.cells zz.cells t)).evo (fun b hb => .inl hb) (fun b hb => hb.elim .inl False.elim))
   have hI2 := hI1.put (d := some d) (v := .junk) (r := .pointer (some ⟨w.heap.size, 0, none⟩)) (.junk _) (show put n (some d) .junk fr = some ((d, .junk) :: fr) by simp [put, hdn])
   rw [hd]
   refine ⟨hI2.rep, hI2.frm, hI2.size, hI2.marks, hI2.rnd, hI2.le, hI2.evo, fun x hx => ?_⟩
   rcases List.mem_cons.1 hx with rfl | hx
   · refine ⟨hI.evo.size, heap_alloc_new _ _, fun h => h.elim (fun h => ?_) False.elim, fun h => ?_⟩
     · have := hI.rep.alt _ h; simp at this
     · rcases h with ⟨k, e, h1, h2⟩ | h
       · have := (hI.rep.lt k _ e h1 h2).1; simp at this
       · have := (hI.rep.xlt _ h).1; simp at this
   · exact hI2.far x hx
 · rw [hd]
   simp only [Act.put]
   have := hI.size
   simp [this, hdn]
theorem liv_push {bl : Bl} {H : Hp} {b c : Nat} {o : O} (h : Liv (upd bl H.length (some (b, 0))) (H ++ [o]) c) : Liv bl H c \/ c = b := by
 rcases h with ⟨i, e, ⟨o', h1, h2⟩, h3⟩ | h
 · rcases Nat.lt_or_ge i H.length with hi | hi
   · rw [List.getElem?_append_left hi] at h1
     rw [upd_other (Nat.ne_of_lt hi)] at h3
     exact .inl (.inl ⟨i, e, ⟨o', h1, h2⟩, h3⟩)
   · have : i = H.length := by
       have := (List.getElem?_eq_some_iff.1 h1).1
       simp at this; omega
     subst this
     rw [upd_same] at h3
     simp only [Option.some.injEq, Prod.mk.injEq] at h3
     exact .inr h3.1.symm
 · exact .inl (.inr h)
theorem told_late {z : Rnd} {b d : Nat} {t : TypeId} {us : Array Value} {cs : List V} (hus : ∀ w A bl H, RepL w A bl H cs us.toList) (hfd : ∀ x ∈ z.far, x.1 ≠ b) {fr : Fr} {H : Hp} {w : World} {A : Nat -> Prop} {bl : Bl} {a : Act}
   (hI : Inv w0 A0 bl0 H0 ⟨z.L, z.ro, (b, .cells us t (0, 0)) :: z.far⟩ n w A bl ((d, .junk) :: fr) H a) (hd : a.tmps[d]? = some (.pointer (some ⟨b, 0, none⟩))) :
   ∃ bl', Inv w0 A0 bl0 H0 z n w A bl' ((d, .ptr H.length 0 0 0) :: fr) (H ++ [.box cs]) a := by
 obtain ⟨f1, f2, f3, f4⟩ := hI.far (b, .cells us t (0, 0)) (by simp)
 simp only at f1 f2 f3 f4
 have hb : b < w.heap.size := (Array.getElem?_eq_some_iff.1 f2).1
 have hlen : us.size = cs.length := by have := (hus w A bl H).1; simpa using this.symm
 obtain ⟨g1, g2⟩ := push_far hI.rep (.box cs) hb f3 f4 ⟨b, us, t, upd_same, f2, hlen, fun j x u hj hu => (hus _ _ _ _).2 j x u hj (by simpa using hu)⟩
 have ne : ∀ {c : Nat} {o : Obj}, w.heap[c]? = some o -> (∀ us' t', o ≠ .cells us' t' (0, 0)) -> c ≠ b := fun h k e => by
   subst e
   rw [f2] at h
   simp only [Option.some.injEq] at h
   exact k _ _ h.symm
 refine ⟨_, g1, ⟨fun t' v' ht => ?_⟩, hI.size, ⟨fun e he => ?_, hI.marks.2⟩, fun x hx => ?_, hI.le.trans g2, ⟨hI.evo.os, hI.evo.tape, hI.evo.output, hI.evo.size, hI.evo.keep, fun c hc => ?_, hI.evo.from_⟩, fun x hx => ?_⟩
 · simp only [get] at ht
   split at ht
   · rename_i e
     subst e
     simp only [Option.some.injEq] at ht
     subst ht
     exact ⟨_, hd, .ptr _ _ _ _ _ (by simp) (fun z e xs h => by simp at h) (fun cs' h => ⟨b, upd_same, fun _ => rfl⟩) (fun z xs h => by simp at h)⟩
   · rename_i hne
     obtain ⟨u, h1, h2⟩ := hI.frm.at_ t' v' (by simp only [get]; rw [if_neg hne]; exact ht)
     exact ⟨u, h1, h2.mono g2⟩
 · obtain ⟨D, h1, h2, h3, h4, h5, h6⟩ := hI.marks.1 e he
   exact ⟨D, h1, h2, h3, h4, h5, fun hl => (liv_push hl).elim h6 (ne h4 (fun _ _ h => by cases h))⟩
 · obtain ⟨h0, h1, h2, h3⟩ := hI.rnd x hx
   exact ⟨h0, h1, h2, fun hl => (liv_push hl).elim h3 (ne h1 (fun _ _ h => by cases h))⟩
 · exact (liv_push hc).elim (hI.evo.live c) (fun e => by subst e; exact .inr f1)
 · obtain ⟨h0, h1, h2, h3⟩ := hI.far x (by simp [hx])
   exact ⟨h0, h1, h2, fun hl => (liv_push hl).elim h3 (hfd x hx)⟩
theorem stepV_opx {all : List Oper} {o : Oper} {fr : Fr} {H : Hp} {r : V × Fr × Hp × Nat} (hg : o.guard = none) (h : stepV E cf g all fr H o = some r) : opx E cf g fr H o = some r := by
 unfold stepV at h
 simpa only [wantedV, hg] using h
theorem put_junk {d : Nat} {e : Option Nat} {v : V} {fr f : Fr} (h : put n e v fr = some f) (hne : e ≠ some d) : ∃ f2, put n e v ((d, .junk) :: fr) = some f2 /\ Feq f2 ((d, .junk) :: f) := by
 cases e with
 | none =>
   simp only [put, Option.some.injEq] at h
   subst h
   exact ⟨_, rfl, Feq.refl _⟩
 | some k =>
   simp only [put] at h ⊢
   split at h <;> simp only [Option.some.injEq, reduceCtorEq] at h
   rename_i hk
   subst h
   refine ⟨_, if_pos hk, fun t => ?_⟩
   have hkd : k ≠ d := fun e => hne (by rw [e])
   simp only [get]
   by_cases h1 : t = k
   · subst h1; simp [hkd]
   · simp [h1]
theorem put_lt_of : ∀ {s t : List Nat} {j d : Nat} {oj : Oper} {fr fr' : Fr} {H H' : Hp}, ops[j]? = some oj -> oj.dst = some d -> RunI E cf g ops.toList n κ (s ++ j :: t) fr H fr' H' -> d < n
 | [], t, j, d, oj, fr, fr', H, H', hj, hd, h => by
   obtain ⟨o, v, fr1, H1, fr2, h1, _, h3, _⟩ := h
   have : o = oj := by simpa [hj] using h1.symm
   subst this
   rw [hd] at h3
   simp only [put] at h3
   split at h3
   · assumption
   · cases h3
 | i :: s, t, j, d, oj, fr, fr', H, H', hj, hd, h => by
   obtain ⟨o, v, fr1, H1, fr2, _, _, _, h4⟩ := h
   exact put_lt_of hj hd h4
section
variable (hcf : CFok P K cf) (hcx : CtxOk P K bl0.cx) (hT : ∀ t y, E.T t = some y -> tyOf P t = some y) {pre : List (List Nat)} (hback : backOk ops.toList = true) (hahead : aheadOk ops.toList pre = true)
 {j d : Nat} {t : TypeId} {oj : Oper} {y : Ty} (hj : ops[j]? = some oj) (hop : oj.op = .alloc t) (hd : oj.dst = some d) (hg : oj.guard = none) (hy : E.T t = some y) (hz : y.zero.length = y.size)
 (hplain : ∀ H : Hp, allocV E.T (ownD (E.own g) (some d)) H t = some (.ptr H.length 0 0 0, H ++ [.box (y.zero.map .c)], 2))
 (hpair : ∀ i k oi ok, i < k -> ops[i]? = some oi -> ops[k]? = some ok -> i ∈ pre.getD k [] \/ ((pairOk (κ i) (κ k) = true \/ k = j) /\ apart ops.toList oi ok = true))
 (hlate : ∀ k, j < k -> k < ops.size -> ∀ i, i <= j -> i ∈ pre.getD k []) (h4 : ∀ i, i < j -> κ i ≠ 4)
 {Q : Exit -> Act -> World -> Prop} {fr' : Fr} {H' : Hp} (hQ : ∀ w' A' bl' a', Inv w0 A0 bl0 H0 z n w' A' bl' fr' H' a' -> Q .normal a' w')
include hcf hcx hT hback hahead hj hop hd hg hy hz hplain hpair hlate h4 hQ
theorem late_b {b : Nat} {us : Array Value} (hus : ∀ w A bl H, RepL w A bl H (y.zero.map .c) us.toList) (hfd : ∀ x ∈ z.far, x.1 ≠ b) :
   ∀ (fuel : Nat) (R1 R2 : List Nat) (listed : Array Bool) {fr : Fr} {H : Hp} {w : World} {A : Nat -> Prop} {bl : Bl} {a : Act}, (R1 ++ R2).length <= fuel -> listed.size = ops.size -> (R1 ++ R2).Pairwise (· < ·) -> (∀ i, i ∈ R1 ++ R2 ↔ i < ops.size /\ listed.getD i true = false) -> Closed pre listed →
     (∀ i ∈ R1, i < j) -> (∀ i ∈ R2, j < i) -> listed.getD j false = true -> RunI E cf g ops.toList n κ (R1 ++ j :: R2) fr H fr' H' →
     Inv w0 A0 bl0 H0 ⟨z.L, z.ro, (b, .cells us t (0, 0)) :: z.far⟩ n w A bl ((d, .junk) :: fr) H a -> a.tmps[d]? = some (.pointer (some ⟨b, 0, none⟩)) -> wpAnyIn z.F 0 P .any ops Q fuel listed a w := by
 intro fuel
 induction fuel with
 | zero =>
   intro R1 R2 listed fr H w A bl a hlen hsz hpw hR hcl hR1 hR2 hjl hrun hI hta
   have e : R1 ++ R2 = [] := List.eq_nil_of_length_eq_zero (by omega)
   obtain ⟨rfl, rfl⟩ := List.append_eq_nil_iff.1 e
   obtain ⟨o, v, fr1, H1, fr2, k1, k2, k3, k4⟩ := hrun
   have : o = oj := by simpa [hj] using k1.symm
   subst this
   obtain ⟨k', q1, rfl⟩ := opx_alloc hop (stepV_opx hg k2)
   rw [hd, hplain] at q1
   simp only [Option.some.injEq, Prod.mk.injEq] at q1
   obtain ⟨rfl, rfl, _⟩ := q1
   obtain ⟨bl', hI2⟩ := told_late hus hfd hI hta
   have hf : fr2 = (d, .ptr H.length 0 0 0) :: fr := by
     rw [hd] at k3
     simp only [put] at k3
     split at k3 <;> simp only [Option.some.injEq, reduceCtorEq] at k3
     exact k3.symm
   subst hf
   exact any_order hcf hcx hT hback hahead hQ 0 [] listed (by simp) hsz (by simp) hR hcl (by simp) k4 hI2
 | succ fuel ih =>
   intro R1 R2 listed fr H w A bl a hlen hsz hpw hR hcl hR1 hR2 hjl hrun hI hta
   cases R1 with
   | nil =>
     obtain ⟨o, v, fr1, H1, fr2, k1, k2, k3, k4⟩ := hrun
     have : o = oj := by simpa [hj] using k1.symm
     subst this
     obtain ⟨k', q1, rfl⟩ := opx_alloc hop (stepV_opx hg k2)
     rw [hd, hplain] at q1
     simp only [Option.some.injEq, Prod.mk.injEq] at q1
     obtain ⟨rfl, rfl, _⟩ := q1
     obtain ⟨bl', hI2⟩ := told_late hus hfd hI hta
     have hf : fr2 = (d, .ptr H.length 0 0 0) :: fr := by
       rw [hd] at k3
       simp only [put] at k3
       split at k3 <;> simp only [Option.some.injEq, reduceCtorEq] at k3
       exact k3.symm
     subst hf
     refine any_order hcf hcx hT hback hahead hQ (fuel + 1) R2 listed hlen hsz hpw hR hcl (fun x k ox ok hx hk hxk hox hok => ?_) k4 hI2
     rcases hpair x k ox ok hxk hox hok with h | ⟨h1, h2⟩
     · exact .inl h
     · have := hR2 k hk
       exact .inr ⟨h1.resolve_right (by omega), h2⟩
   | cons x0 R1 =>
     refine ⟨fun hr => ?_, fun i hi => ?_⟩
     · have := first_ready hback (i := x0) (R := R1 ++ R2) hsz hpw hR
       rw [hr] at this; simp at this
     · obtain ⟨h1, h2, o, h3, _⟩ := take_ready.1 hi
       have hpre := ahead_listed hahead hcl hi
       have unl : ∀ {x}, x ∈ (x0 :: R1) ++ R2 -> listed.getD x false = true -> False := fun {x} hx hl => by
         obtain ⟨e1, e2⟩ := (hR x).1 hx
         simp [Array.getD, show x < listed.size by omega] at e2 hl
         rw [hl] at e2; simp at e2
       rcases List.mem_append.1 ((hR i).2 ⟨h1, h2⟩) with hm | hm
       case inr =>
         have h0 := hR1 x0 (by simp)
         exact (unl (x := x0) (by simp) (hpre x0 (hlate i (hR2 i hm) h1 x0 (by omega)))).elim
       have hij := hR1 i hm
       obtain ⟨s, t', hst⟩ := List.append_of_mem hm
       rw [hst] at hlen hpw hR hR1 hrun unl
       have e0 : (s ++ i :: t') ++ R2 = s ++ i :: (t' ++ R2) := by simp
       rw [e0] at hlen hpw hR unl
       have hap : apart ops.toList o oj = true := by
         rcases hpair i j o oj hij h3 hj with h | h
         · exact (unl (by simp) (hcl j hjl i h)).elim
         · exact h.2
       obtain ⟨a1, a2, a3⟩ := apart_spec hap
       have hlook : LookEq ops.toList o fr ((d, .junk) :: fr) := fun t ht => by
         have : t ≠ d := fun e => a3 d hd (e ▸ ht)
         simp [get, this]
       have hmove : RunI E cf g ops.toList n κ (i :: (s ++ (t' ++ j :: R2))) fr H fr' H' := by
         refine to_front (by simpa using h3) (by simpa using hrun) (fun x hx ox hox => ?_) fun _ x hx u hu k hk => ?_
         · have hpw' := List.pairwise_append.1 hpw
           have hxi : x < i := hpw'.2.2 x hx i (by simp)
           rcases hpair x i ox o hxi (by simpa using hox) h3 with h | ⟨q1, q2⟩
           · exact (unl (x := x) (by simp [hx]) (hpre x h)).elim
           · exact ⟨q1.resolve_right (by omega), q2⟩
         · rw [hlook.opd x hx] at hu
           exact top_lt (opd_rep hI.frm hu) k hk
       obtain ⟨o', v, fr1, H1, fr2, k1, k2, k3, k4⟩ := hmove
       have : o' = o := by simpa [h3] using k1.symm
       subst this
       obtain ⟨tr, c⟩ := stepV_cls k2
       have hn4 := h4 i hij
       have e1 : fr1 = fr := c.this.trans (c.same hn4 _)
       subst e1
       have hs := c.any _ hlook
       rw [c.same hn4] at hs
       have hdne : o'.dst ≠ some d := fun e => a2 d e hd
       obtain ⟨f2, p1, p2⟩ := put_junk (d := d) k3 hdne
       obtain ⟨l1, l2, l3⟩ := left_after hsz hpw hR
       have hi' : i < listed.size := by omega
       refine step_wp2 (z := ⟨z.L, z.ro, (b, .cells us t (0, 0)) :: z.far⟩) hcf hcx hT h3 hs p1 hI fun w' A' bl' r hI' => ?_
       refine ih (s ++ t') R2 (listed.setIfInBounds i true) ?_ l1 (by simpa using l2) (by simpa using l3) (closed_after hi' hcl hpre) (fun x hx => hR1 x (by rcases List.mem_append.1 hx with h | h <;> simp [h])) hR2 ?_ (by simpa using k4) (hI'.frame fun t v ht => by rw [p2 t]; exact ht) ?_
       · simp at hlen ⊢; omega
       · rw [getD_set hi']; split
         · rfl
         · exact hjl
       · rw [put_get_other hdne]; exact hta
theorem late_a : ∀ (fuel : Nat) (R : List Nat) (listed : Array Bool) {fr : Fr} {H : Hp} {w : World} {A : Nat -> Prop} {bl : Bl} {a : Act}, R.length <= fuel -> listed.size = ops.size -> R.Pairwise (· < ·) -> (∀ i, i ∈ R ↔ i < ops.size /\ listed.getD i true = false) -> Closed pre listed -> j ∈ R →
     RunI E cf g ops.toList n κ R fr H fr' H' -> Inv w0 A0 bl0 H0 z n w A bl fr H a -> wpAnyIn z.F 0 P .any ops Q fuel listed a w := by
 intro fuel
 induction fuel with
 | zero =>
   intro R listed fr H w A bl a hlen hsz hpw hR hcl hjR hrun hI
   have : R = [] := List.eq_nil_of_length_eq_zero (by omega)
   subst this; simp at hjR
 | succ fuel ih =>
   intro R listed fr H w A bl a hlen hsz hpw hR hcl hjR hrun hI
   refine ⟨fun hr => ?_, fun i hi => ?_⟩
   · cases R with
     | nil => simp at hjR
     | cons x0 R =>
       have := first_ready hback (i := x0) (R := R) hsz hpw hR
       rw [hr] at this; simp at this
   · obtain ⟨h1, h2, o, h3, _⟩ := take_ready.1 hi
     have hpre := ahead_listed hahead hcl hi
     have unl : ∀ {x}, x ∈ R -> listed.getD x false = true -> False := fun {x} hx hl => by
       obtain ⟨e1, e2⟩ := (hR x).1 hx
       simp [Array.getD, show x < listed.size by omega] at e2 hl
       rw [hl] at e2; simp at e2
     obtain ⟨s, t', rfl⟩ := List.append_of_mem ((hR i).2 ⟨h1, h2⟩)
     have hpw' := List.pairwise_append.1 hpw
     have hpw2 := List.pairwise_cons.1 hpw'.2.1
     have hi' : i < listed.size := by omega
     obtain ⟨l1, l2, l3⟩ := left_after hsz hpw hR
     by_cases hij : i = j
     · subst hij
       have hdn := put_lt_of hj hd hrun
       refine early_wp hT hj hop hd hg hy hz hdn hI fun w' A' bl' a' b us q1 _ q2 q3 q4 => ?_
       refine late_b hcf hcx hT hback hahead hj hop hd hg hy hz hplain hpair hlate h4 hQ q1 q2 fuel s t' (listed.setIfInBounds i true) (by simp at hlen ⊢; omega) l1 l2 l3 (closed_after hi' hcl hpre) (fun x hx => hpw'.2.2 x hx i (by simp)) (fun x hx => hpw2.1 x hx) ?_ hrun q3 q4
       rw [getD_set hi', if_pos rfl]
     · have hlt : i < j := by
         rcases Nat.lt_or_ge i j with h | h
         · exact h
         · exact (unl hjR (hpre j (hlate i (by omega) h1 j (Nat.le_refl _)))).elim
       have hmove : RunI E cf g ops.toList n κ (i :: (s ++ t')) fr H fr' H' := by
         refine to_front (by simpa using h3) hrun (fun x hx ox hox => ?_) fun _ x hx u hu k hk => ?_
         · have hxi : x < i := hpw'.2.2 x hx i (by simp)
           rcases hpair x i ox o hxi (by simpa using hox) h3 with h | ⟨p1, p2⟩
           · exact (unl (x := x) (by simp [hx]) (hpre x h)).elim
           · exact ⟨p1.resolve_right (by omega), p2⟩
         · exact top_lt (opd_rep hI.frm hu) k hk
       obtain ⟨o', v, fr1, H1, fr2, k1, k2, k3, k4⟩ := hmove
       have : o' = o := by simpa [h3] using k1.symm
       subst this
       have hjR' : j ∈ s ++ t' := by
         rcases List.mem_append.1 hjR with h | h
         · simp [h]
         · rcases List.mem_cons.1 h with h | h
           · exact absurd h.symm hij
           · simp [h]
       exact step_wp hcf hcx hT h3 k2 k3 hI fun w' A' bl' a' hI' => ih (s ++ t') (listed.setIfInBounds i true) (by simp at hlen ⊢; omega) l1 l2 l3 (closed_after hi' hcl hpre) hjR' k4 hI'
end
theorem draw_ok (hm : P.follows .mixedOrders = true) : DrawOk P K := by
 intro E cf hcf hT g id n ops Q w0 A0 bl0 H0 z fr fr' H H' ks w A bl a hcx hrun hdraw hI hQ
 refine wpIn_region_any hm ?_
 simp only [drawOk, Bool.or_eq_true] at hdraw
 rcases hdraw with hdraw | hdraw
 case inr =>
   rcases hdraw with hdraw | hdraw
   case inr =>
     unfold lateOk at hdraw
     rw [List.any_eq_true] at hdraw
     obtain ⟨j, _, hdraw⟩ := hdraw
     unfold lateAt at hdraw
     simp only [Bool.and_eq_true] at hdraw
     obtain ⟨⟨⟨⟨⟨hb, ha⟩, hj⟩, hp⟩, hl⟩, h4⟩ := hdraw
     split at hj
     case h_2 => cases hj
     rename_i d t y0 s0 a0 hoj
     simp only [Bool.and_eq_true, Bool.not_eq_true'] at hj
     obtain ⟨hown, hpt⟩ := hj
     unfold boxTy at hpt
     split at hpt
     case h_2 => cases hpt
     rename_i y hy
     obtain ⟨i0, dd, hti⟩ := get_wf hT hy
     have hna : ∀ m e, y.k ≠ .array m e := fun m e hk => by rw [hk] at hpt; cases hpt
     have hz : y.zero.length = y.size := hti.zero' fun m e hk => by
       have h := hti.k
       rw [hk] at h
       exact hna _ _ h
     have hplain : ∀ H : Hp, allocV E.T (ownD (E.own g) (some d)) H t = some (.ptr H.length 0 0 0, H ++ [.box (y.zero.map .c)], 2) := fun H => by
       simp only [allocV, hy, ownD, hown]
       cases hk : y.k <;> first | rfl | exact absurd hk (hna _ _)
     have hjs : j < ops.size := by
       have := (List.getElem?_eq_some_iff.1 hoj).1; simpa using this
     simp only [List.all_eq_true, List.mem_range] at hp hl h4
     refine late_a (g := g) (κ := fun i => ks.getD i 4) hcf hcx hT hb ha (j := j) (d := d) (t := t) (by simpa using hoj) rfl rfl rfl hy hz hplain (fun i k oi ok hik hoi hok => ?_) (fun k hjk hk i hi => ?_) (fun i hi => ?_) hQ ops.size (List.range ops.size) _ (by simp) (by simp) List.pairwise_lt_range (fun i => ?_) (fun i hi => ?_) (by simp [hjs]) ?_ hI.drew
     · have hk := (Array.getElem?_eq_some_iff.1 hok).1
       have := hp k (by simpa using hk) i hik
       rw [show ops.toList[i]? = some oi by simpa using hoi, show ops.toList[k]? = some ok by simpa using hok] at this
       simp only [Bool.or_eq_true, Bool.and_eq_true, beq_iff_eq] at this
       exact this.imp (fun h => by simpa using h) fun h => h
     · have := hl k (by simpa using hk)
       rw [decide_eq_true hjk] at this
       simp only [Bool.not_true, Bool.false_or, List.all_eq_true, List.mem_range] at this
       have := this i (by omega)
       simpa using this
     · have := h4 i hi
       simpa using this
     · constructor
       · intro h
         have h := List.mem_range.1 h
         exact ⟨h, by simp [Array.getD, h]⟩
       · exact fun h => List.mem_range.2 h.1
     · simp [Array.getD] at hi
     · have := runI_of (n := n) (κ := fun i => ks.getD i 4) (i := 0) (by simp) hrun (fun j _ => by rw [Nat.zero_add])
       simpa [List.range_eq_range'] using this
   simp [dupOk] at hdraw
 simp only [drawOk0, Bool.and_eq_true] at hdraw
 obtain ⟨⟨hb, ha⟩, hp⟩ := hdraw
 refine any_order (g := g) (κ := fun i => ks.getD i 4) hcf hcx hT hb ha hQ ops.size (List.range ops.size) _ (by simp) (by simp) List.pairwise_lt_range (fun i => ?_) (fun i hi => ?_) ?_ ?_ hI.drew
 rotate_left 2
 · intro i j oi oj _ _ hij hoi hoj
   have hi := (Array.getElem?_eq_some_iff.1 hoi).1
   have hj := (Array.getElem?_eq_some_iff.1 hoj).1
   simp only [List.all_eq_true, List.mem_range] at hp
   have := hp j (by simpa using hj) i hij
   rw [show ops.toList[i]? = some oi by simpa using hoi, show ops.toList[j]? = some oj by simpa using hoj] at this
   simp only [Bool.or_eq_true, Bool.and_eq_true] at this
   exact this.imp (fun h => by simpa using h) fun h => h
 · have := runI_of (n := n) (κ := fun i => ks.getD i 4) (i := 0) (by simp) hrun (fun j _ => by rw [Nat.zero_add])
   simpa [List.range_eq_range'] using this
 · constructor
   · intro h
     have h := List.mem_range.1 h
     exact ⟨h, by simp [Array.getD, h]⟩
   · exact fun h => List.mem_range.2 h.1
 · simp [Array.getD] at hi
end
end Go.Ev
namespace Go.Ev
section
variable {P : Program} {K : World -> Prop} {n : Nat} {w w' : World} {A A' : Nat -> Prop} {bl bl' : Bl} {H H' : Hp} {fr fr' : Fr}
theorem liv_lt (hH : RepH w A bl H) {c : Nat} (h : Liv bl H c) : c < w.heap.size /\ ¬ A c := by
 rcases h with ⟨i, d, h1, h2⟩ | h
 · exact hH.lt i c d h1 h2
 · exact hH.xlt c h
theorem RepH.still (hH : RepH w A bl H) (hA : ∀ c, A c -> A' c) (alt : ∀ c, A' c -> c < w'.heap.size) (dis : ∀ c, Liv bl H c -> ¬ A' c) (keep : ∀ c, Liv bl H c \/ A c -> w'.heap[c]? = w.heap[c]?) (size : w.heap.size <= w'.heap.size) (os : w'.os = w.os) (tape : w'.tape = w.tape) (output : w'.output = w.output) :
   RepH w' A' bl H /\ Le w A bl H w' A' bl H := by
 have hl : Le w A bl H w' A' bl H := ⟨fun b hb => keep b (.inr hb), hA, Nat.le_refl _, fun i z e xs _ h => ⟨e, xs, h, Nat.le_refl _, fun _ => ⟨rfl, rfl⟩⟩, fun i cs _ h => ⟨cs, h, rfl⟩, fun i r s _ h => ⟨r, s, h, rfl⟩, rfl,
   fun i z e xs xs' b d n h0 _ hb hr => by rw [rowOf_keep (keep b (.inl (.inl ⟨i, d, ⟨_, h0, rfl⟩, hb⟩)))]; exact hr⟩
 have hard : Ard w w' A' bl bl := ⟨rfl, alt, fun c hc => dis c (.inr hc), fun c hc => keep c (.inl (.inr hc)), size, os, tape, output⟩
 refine ⟨⟨fun i o hi => ?_, hH.inj, fun i b d ha hb => ⟨Nat.lt_of_lt_of_le (hH.lt i b d ha hb).1 size, dis b (.inl ⟨i, d, ha, hb⟩)⟩, alt, fun b hb => ⟨Nat.lt_of_lt_of_le (hH.xlt b hb).1 size, dis b (.inr hb)⟩, hH.xinj, hH.base.mono hl.A hl.C⟩, hl⟩
 cases ho : o.live with
 | false => cases o <;> simp [O.live] at ho; trivial
 | true => exact (hH.obj i o hi).mono hl hard rfl (fun b d hb => keep b (.inl (.inl ⟨i, d, ⟨o, hi, ho⟩, hb⟩))) (fun b d hb => dis b (.inl ⟨i, d, ⟨o, hi, ho⟩, hb⟩))
theorem RepH.putObj (hH : RepH w A bl H) {l : Nat} (hA : ¬ A l) (hL : ¬ Liv bl H l) (o : Obj) : RepH (w.putObj l o) A bl H /\ Le w A bl H (w.putObj l o) A bl H :=
 hH.still (fun _ h => h) (fun c hc => by simpa using hH.alt c hc) (fun c hc => (liv_lt hH hc).2) (fun c hc => World.putObj_heap_other fun e => hc.elim (fun h => hL (e ▸ h)) (fun h => hA (e ▸ h))) (by simp) rfl rfl rfl
theorem RepV.cx {X : Nat -> Prop} {cx : Ctx} {v : V} {u : Value} (h : RepV w A bl H v u) : RepV w A { bl with X := X, cx := cx } H v u := by
 induction h with
 | junk => exact .junk _
 | undef => exact .undef
 | c x v h => exact .c _ _ h
 | fp cs a h1 h2 => exact .fp _ _ h1 h2
 | buf i ep off len a l cap h1 h2 h3 => exact .buf _ _ _ _ _ _ _ h1 h2 h3
 | ptr i ep el o a h1 h2 h3 h4 => exact .ptr _ _ _ _ _ h1 h2 h3 h4
 | yl i b h1 h2 => exact .yl _ _ h1 h2
 | fn f caps vs h1 _ ih => exact .fn _ _ _ h1 ih
 | agg xs vs h1 _ ih => exact .agg _ _ h1 ih
 | tup xs vs h1 _ ih => exact .tup _ _ h1 ih
theorem RepO.cx {X : Nat -> Prop} {cx : Ctx} {i : Nat} {o : O} (hn : ∀ r s, o ≠ .yo r s) (h : RepO w A bl H i o) : RepO w A { bl with X := X, cx := cx } H i o := by
 cases o with
 | gone => trivial
 | yo r s => exact absurd rfl (hn r s)
 | box cs =>
   obtain ⟨b, arr, t, h1, h2, h3, h4⟩ := h
   exact ⟨b, arr, t, h1, h2, h3, fun j x u hj hu => (h4 j x u hj hu).cx⟩
 | mem z e xs => exact h
theorem pureL_at : ∀ {l : List V} {cs : List C}, pureL l = some cs -> ∀ (j : Nat) (x : V), l[j]? = some x -> ∃ c, x = .c c
 | [], _, _, j, x, h => by simp at h
 | v :: l, cs, hp, j, x, h => by
   cases v <;> simp only [pureL, reduceCtorEq] at hp
   split at hp <;> simp only [Option.some.injEq, reduceCtorEq] at hp
   cases j with
   | zero => simp at h; exact ⟨_, h.symm⟩
   | succ j => simp at h; exact pureL_at ‹_› j x h
theorem closed_at : ∀ {l : List V}, closedL l = true -> ∀ (j : Nat) (x : V), l[j]? = some x -> (∃ c, x = .c c) \/ (∃ cs, x = .fp cs) \/ ∃ xs cs, x = .agg xs /\ pureL xs = some cs
 | [], _, j, x, h => by simp at h
 | v :: l, hc, j, x, h => by
   have hl : closedL l = true /\ ((∃ c, v = .c c) \/ (∃ cs, v = .fp cs) \/ ∃ xs cs, v = .agg xs /\ pureL xs = some cs) := by
     cases v <;> simp only [closedL, Bool.false_eq_true] at hc
     · exact ⟨hc, .inl ⟨_, rfl⟩⟩
     · exact ⟨hc, .inr (.inl ⟨_, rfl⟩)⟩
     · split at hc
       · exact ⟨hc, .inr (.inr ⟨_, _, rfl, ‹_›⟩)⟩
       · simp at hc
   cases j with
   | zero => simp at h; subst h; exact hl.2
   | succ j => simp at h; exact closed_at hl.1 j x h
theorem closed_rep {l : List V} {us : List Value} (hc : closedL l = true) (h : RepL w A bl H l us) : RepL w A bl' H' l us := by
 refine ⟨h.1, fun j x u hj hu => ?_⟩
 have hr := h.2 j x u hj hu
 rcases closed_at hc j x hj with ⟨c, rfl⟩ | ⟨cs, rfl⟩ | ⟨xs, cs, rfl, hp⟩
 · cases hr with | c _ _ h => exact .c _ _ h
 · cases hr with | fp _ a h1 h2 => exact .fp _ _ h1 h2
 · cases hr with
   | agg _ vs h1 h2 =>
     refine .agg _ _ h1 fun k y v hk hv => ?_
     obtain ⟨c, rfl⟩ := pureL_at hp k y hk
     cases h2 k _ v hk hv with | c _ _ h => exact .c _ _ h
theorem RepF.put1 {tmps : Array Value} (h : RepF w A bl H fr tmps) (hs : tmps.size = n) {t : Nat} {v : V} {r : Value} (hv : RepV w A bl H v r) (hp : put n (some t) v fr = some fr') : RepF w A bl H fr' (tmps.setIfInBounds t r) := by
 unfold Ev.put at hp
 simp only at hp
 split at hp <;> simp only [Option.some.injEq, reduceCtorEq] at hp
 rename_i ht
 subst hp
 refine ⟨fun t' v' hg => ?_⟩
 simp only [get] at hg
 split at hg
 · rename_i he
   subst he
   simp only [Option.some.injEq] at hg
   subst hg
   exact ⟨r, by simp [hs, ht], hv⟩
 · rename_i hne
   obtain ⟨u, h1, h2⟩ := h.at_ t' v' hg
   exact ⟨u, by rw [Array.getElem?_setIfInBounds_ne (Ne.symm hne)]; exact h1, h2⟩
theorem putL_rep : ∀ {ps : List Nat} {l : List V} {us : List Value} {fr fr' : Fr} {tmps : Array Value}, putL n ps l fr = some fr' -> RepL w A bl H l us -> RepF w A bl H fr tmps -> tmps.size = n →
   RepF w A bl H fr' ((ps.zip us).foldl (fun tmps (t, a) => tmps.setIfInBounds t a) tmps) /\ ((ps.zip us).foldl (fun tmps (t, a) => tmps.setIfInBounds t a) tmps).size = n /\ us.length = ps.length
 | [], [], us, fr, fr', tmps, h, hl, hf, hs => by
   simp only [putL, Option.some.injEq] at h
   subst h
   have : us = [] := by have := hl.1; simpa using this.symm
   subst this
   exact ⟨hf, hs, rfl⟩
 | [], _ :: _, us, fr, fr', tmps, h, hl, hf, hs => by simp [putL] at h
 | _ :: _, [], us, fr, fr', tmps, h, hl, hf, hs => by simp [putL] at h
 | t :: ps, v :: l, us, fr, fr', tmps, h, hl, hf, hs => by
   simp only [putL] at h
   split at h
   case h_2 => simp at h
   rename_i fr1 hp
   match us, hl with
   | [], hl => exact absurd hl.1 (by simp)
   | u :: us, hl =>
     have h1 := hf.put1 hs (hl.2 0 v u rfl rfl) hp
     obtain ⟨g1, g2, g3⟩ := putL_rep (tmps := tmps.setIfInBounds t u) h ⟨by simpa using hl.1, fun j x u hj hu => hl.2 (j + 1) x u hj hu⟩ h1 (by simpa using hs)
     exact ⟨g1, g2, by simp [g3]⟩
theorem gone_rep (hH : RepH w A bl H) (i : Nat) : RepH w A bl (H.set i .gone) /\ Le w A bl H w A bl (H.set i .gone) /\ (∀ j, alive (H.set i .gone) j -> alive H j /\ j ≠ i) := by
 have at_ : ∀ j o, (H.set i .gone)[j]? = some o -> o = .gone \/ (H[j]? = some o /\ j ≠ i) := fun j o h => by
   by_cases e : j = i
   · subst e
     rw [List.getElem?_set] at h
     simp at h
     exact .inl h.2.symm
   · rw [List.getElem?_set_ne (Ne.symm e)] at h; exact .inr ⟨h, e⟩
 have al : ∀ j, alive (H.set i .gone) j -> alive H j /\ j ≠ i := fun j ⟨o, h1, h2⟩ => by
   rcases at_ j o h1 with rfl | ⟨h, e⟩
   · simp [O.live] at h2
   · exact ⟨⟨o, h, h2⟩, e⟩
 have hl : Le w A bl H w A bl (H.set i .gone) := by
   refine ⟨fun _ _ => rfl, fun _ h => h, by simp, fun j z e xs _ h => ?_, fun j cs _ h => ?_, fun j r s _ h => ?_, rfl, fun _ _ _ _ _ _ _ _ _ _ _ h => h⟩
   · rcases at_ j _ h with h | ⟨h, _⟩
     · cases h
     · exact ⟨_, _, h, Nat.le_refl _, fun _ => ⟨rfl, rfl⟩⟩
   · rcases at_ j _ h with h | ⟨h, _⟩
     · cases h
     · exact ⟨_, h, rfl⟩
   · rcases at_ j _ h with h | ⟨h, _⟩
     · cases h
     · exact ⟨_, _, h, rfl⟩
 refine ⟨⟨fun j o hj => ?_, fun j k b d d' hjk ha ha' => hH.inj j k b d d' hjk (al j ha).1 (al k ha').1, fun j b d ha => hH.lt j b d (al j ha).1, hH.alt, hH.xlt, fun j b d ha => hH.xinj j b d (al j ha).1, hH.base⟩, hl, al⟩
 rcases at_ j o hj with rfl | ⟨h, _⟩
 · trivial
 · cases ho : o.live with
   | false => cases o <;> simp [O.live] at ho; trivial
   | true => exact (hH.obj j o h).mono hl ⟨rfl, hH.alt, fun c hc => (hH.xlt c hc).2, fun _ _ => rfl, Nat.le_refl _, rfl, rfl, rfl⟩ rfl (fun _ _ _ => rfl) (fun b d hb => (hH.lt j b d ⟨o, h, ho⟩ hb).2)
theorem goneAt_rep : ∀ {ids : List Nat} {H : Hp}, RepH w A bl H -> RepH w A bl (goneAt ids H) /\ Le w A bl H w A bl (goneAt ids H) /\ (∀ j, alive (goneAt ids H) j -> alive H j /\ j ∉ ids)
 | [], H, h => ⟨h, Le.refl _ _ _ _, fun j ha => ⟨ha, by simp⟩⟩
 | i :: r, H, h => by
   obtain ⟨h1, h2, h3⟩ := gone_rep h i
   obtain ⟨g1, g2, g3⟩ := goneAt_rep (ids := r) h1
   exact ⟨g1, h2.trans g2, fun j ha => ⟨(h3 j (g3 j ha).1).1, by simp only [List.mem_cons, not_or]; exact ⟨(h3 j (g3 j ha).1).2, (g3 j ha).2⟩⟩⟩
variable {ps : List Nat} {nm : St -> Option St} {rd : Nat -> St -> Option (Ex × St)}
theorem roundsE_nil {es : List (List V)} {s sE : St} {ex : Ex} {t : Bool} (h : roundsE n ps nm rd es s = some (ex, sE, [], t)) : ex = .nrm /\ sE = s /\ t = false := by
 cases es with
 | nil =>
   simp only [roundsE, Option.some.injEq, Prod.mk.injEq] at h
   exact ⟨h.1.symm, h.2.1.symm, h.2.2.2.symm⟩
 | cons e es =>
   simp only [roundsE] at h
   split at h
   case h_2 => simp at h
   split at h
   · split at h
     case h_2 => simp at h
     split at h <;> simp at h
   · simp at h
   · simp at h
theorem roundsE_cons {es : List (List V)} {e : List V} {r : List (List V)} {s sE : St} {ex : Ex} {t : Bool} (h : roundsE n ps nm rd es s = some (ex, sE, e :: r, t)) : closedL e = true /\ ∃ fr, putL n ps e s.fr = some fr ∧
   ∃ ex1 s1, rd s.hp.length ⟨fr, s.hp⟩ = some (ex1, s1) ∧
     ((ex1 = .nrm /\ ∃ s2 es', nm ⟨s.fr, s1.hp⟩ = some s2 /\ roundsE n ps nm rd es' s2 = some (ex, sE, r, t)) \/ (ex1 ≠ .nrm /\ ex = ex1 /\ sE = ⟨s.fr, s1.hp⟩ /\ r = [] /\ t = true)) := by
 cases es with
 | nil => simp [roundsE] at h
 | cons e' es =>
   simp only [roundsE] at h
   split at h
   case h_2 => simp at h
   rename_i fr hcl hput
   split at h
   · rename_i s1 h1
     split at h
     case h_2 => simp at h
     rename_i s2 h2
     split at h <;> simp only [Option.some.injEq, Prod.mk.injEq, reduceCtorEq, List.cons.injEq] at h
     rename_i h3
     obtain ⟨rfl, rfl, ⟨rfl, rfl⟩, rfl⟩ := h
     exact ⟨hcl, fr, hput, _, s1, h1, .inl ⟨rfl, s2, es, h2, h3⟩⟩
   · rename_i ex1 s1 hne h1
     simp only [Option.some.injEq, Prod.mk.injEq, List.cons.injEq] at h
     obtain ⟨rfl, rfl, ⟨rfl, rfl⟩, rfl⟩ := h
     exact ⟨hcl, fr, hput, _, s1, h1, .inr ⟨fun e => hne e, rfl, rfl, rfl, rfl⟩⟩
   · simp at h
def jumpOf : Ex -> Option Code
 | .nrm => none
 | .exit i => some (.exit i)
 | .ret => some .ret
theorem roundPost_of {l : Nat} {R : Ending -> World -> Prop} {ex : Ex} {a : Act} {v : Value} (h : (Instr.endRound l (jumpOf ex)).run P w = .ok v w') (hR : R (.returned v) w') : roundPost P l R (exOf ex) a w := by
 cases ex <;> exact ⟨v, w', h, hR⟩
end
end Go.Ev
namespace Go.Ev
section
variable {P : Program} {K : World -> Prop} {n : Nat} {E : Env} {cf : CF} {g : FuncId} {m : Nat} {rd : Nat -> St -> Option (Ex × St)} {asn bd : Code} {ps : Array Tmp} {w : World}
structure YY (w0 : World) (A0 : Nat -> Prop) (bl0 : Bl) (H0 : Hp) (n : Nat) (nm : St -> Option St) (rd : Nat -> St -> Option (Ex × St)) (rec : Loop) (l : Nat) (ex : Ex) (sE : St) (rest : List (List V)) (t : Bool) (b : Nat) (A X : Nat -> Prop) (w : World) : Prop where
 at_ : b = l
 is : ∃ (bl : Bl) (s : St) (r0 : Loop), w.heap[l]? = some (.loop r0) /\ ¬ A l /\ ¬ Liv bl s.hp l /\ RepH w A bl s.hp /\ RepF w A bl s.hp s.fr rec.tmps /\ Le w0 A0 bl0 H0 w A bl s.hp /\ (∀ c, X c ↔ Liv bl s.hp c) ∧
   ((∃ es, roundsE n rec.params.toList nm rd es s = some (ex, sE, rest, t) /\ r0 = rec) \/ (rest = [] /\ t = true /\ s = sE /\ ex ≠ .nrm /\ r0 = { rec with state := .done, pending := jumpOf ex }))
theorem YY.stable {w0 : World} {A0 : Nat -> Prop} {bl0 : Bl} {H0 : Hp} {nm : St -> Option St} {rec : Loop} {l : Nat} {ex : Ex} {sE : St} {r : List (List V)} {s : Bool} {b : Nat} {A X : Nat -> Prop} {w : World} {A' : Nat -> Prop} {w' : World}
   (h : YY w0 A0 bl0 H0 n nm rd rec l ex sE r s b A X w) (hA : ∀ c, A c -> A' c) (alt : ∀ c, A' c -> c < w'.heap.size) (dis : ∀ c, X c \/ c = b -> ¬ A' c) (keep : ∀ c, c = b \/ X c \/ A c -> w'.heap[c]? = w.heap[c]?)
   (size : w.heap.size <= w'.heap.size) (os : w'.os = w.os) (tape : w'.tape = w.tape) (output : w'.output = w.output) : YY w0 A0 bl0 H0 n nm rd rec l ex sE r s b A' X w' := by
 obtain ⟨rfl, bl, st, r0, h1, h2, h3, h4, h5, h6, h7, h8⟩ := h
 obtain ⟨g1, g2⟩ := h4.still hA alt (fun c hc => dis c (.inl ((h7 c).2 hc))) (fun c hc => keep c (hc.elim (fun h => .inr (.inl ((h7 c).2 h))) (fun h => .inr (.inr h)))) size os tape output
 exact ⟨rfl, bl, st, r0, (keep b (.inl rfl)).trans h1, dis b (.inr rfl), h3, g1, h5.mono g2, h6.trans g2, h7, h8⟩
theorem Le.trunc {w w' : World} {A A' : Nat -> Prop} {bl bl' : Bl} {H H' : Hp} {k : Nat} (h : Le w A bl H w' A' bl' H') (hk : H.length <= k) : Le w A bl H w' A' bl' (H'.take k) := by
 have at_ : ∀ {i o}, (H'.take k)[i]? = some o -> H'[i]? = some o := fun {i o} h => by
   rw [List.getElem?_take] at h
   split at h
   · exact h
   · simp at h
 exact ⟨h.C, h.A, by rw [List.length_take]; exact Nat.le_min.2 ⟨hk, h.len⟩, fun i z e xs hi hh => h.mem i z e xs hi (at_ hh), fun i cs hi hh => h.box i cs hi (at_ hh), fun i r s hi hh => h.yo i r s hi (at_ hh), h.cx, fun i z e xs xs' b d n h0 hh => h.row i z e xs xs' b d n h0 (at_ hh)⟩
theorem Le.taken {w : World} {A : Nat -> Prop} {bl : Bl} {H : Hp} (k : Nat) : Le w A bl (H.take k) w A bl H := by
 have at_ : ∀ {i o}, i < (H.take k).length -> H[i]? = some o -> (H.take k)[i]? = some o := fun {i o} hi h => by
   rw [List.getElem?_take, if_pos (by simp at hi; omega)]; exact h
 have at2 : ∀ {i o}, (H.take k)[i]? = some o -> H[i]? = some o := fun {i o} h => by
   rw [List.getElem?_take] at h
   split at h
   · exact h
   · simp at h
 exact ⟨fun _ _ => rfl, fun _ h => h, by simp; omega, fun i z e xs hi h => ⟨_, _, at_ hi h, Nat.le_refl _, fun _ => ⟨rfl, rfl⟩⟩, fun i cs hi h => ⟨_, at_ hi h, rfl⟩, fun i r s hi h => ⟨_, _, at_ hi h, rfl⟩, rfl, fun _ _ _ _ _ _ _ _ _ _ _ h => h⟩
theorem yoAns_nrm {nm : St -> Option St} {ps : List Nat} {es : List (List V)} {s sE : St} {ex : Ex} {e : List V} {r : List (List V)} {t : Bool} (h : roundsE n ps nm rd es s = some (ex, sE, r, t)) : yoAns (e :: r) t = true := by
 cases r with
 | nil => rw [(roundsE_nil h).2.2]; rfl
 | cons => simp [yoAns]
theorem YY.yield {w0 : World} {A0 : Nat -> Prop} {bl0 : Bl} {H0 : Hp} {rec : Loop} {l : Nat} {ex : Ex} {sE : St} {e : List V} {r : List (List V)} {t : Bool} {b : Nat} {A X : Nat -> Prop} {w : World}
   (hrd : ∀ m s ex s', rd m s = some (ex, s') -> ∃ s1, CSound P K n rec.assign m s .nrm s1 /\ CSound P K n rec.body m s1 ex s') (hcx : CtxOk P K bl0.cx) (hsz : rec.tmps.size = n) (hst : rec.state = .ready) (hpe : rec.pending = none)
   (hY : YY w0 A0 bl0 H0 n (norm E g H0.length bd) rd rec l ex sE (e :: r) t b A X w) (bl' : Bl) (H' : Hp) (us : List Value) (hus : RepL w A bl' H' e us) :
   ∃ f tmps asn bd', (Instr.yield b us.toArray).run P w = .ok (.round b f tmps asn bd') w /\ RoundIn Fence.wide 0 P b f tmps asn bd' w fun en w' => ∃ A' X', en = .returned (.bool (yoAns (e :: r) t)) /\ YY w0 A0 bl0 H0 n (norm E g H0.length bd) rd rec l ex sE r t b A' X' w' /\ YEvo w A X b w' A' X' := by
 obtain ⟨rfl, bl, s, r0, hrec, hlA, hlL, hR, hF, hL, hX, hcase⟩ := hY
 rcases hcase with ⟨es, hes, rfl⟩ | ⟨h, _⟩
 case inr => cases h
 obtain ⟨hcl, fr, hput, ex1, s2, hrd1, halt⟩ := roundsE_cons hes
 have hus' : RepL w A bl s.hp e us := closed_rep hcl hus
 obtain ⟨hF1, hsz1, hlen⟩ := putL_rep hput hus' hF hsz
 have hzip : (r0.params.zip us.toArray).foldl (fun tmps (t, a) => tmps.setIfInBounds t a) r0.tmps = (r0.params.toList.zip us).foldl (fun tmps (t, a) => tmps.setIfInBounds t a) r0.tmps := by
   rw [<- Array.foldl_toList, Array.toList_zip]
 have hbl : b < w.heap.size := (Array.getElem?_eq_some_iff.1 hrec).1
 refine ⟨r0.fn, _, r0.assign, r0.body, run_yield hrec (by simpa using hlen), ?_⟩
 obtain ⟨s1, ha, hb⟩ := hrd _ _ _ _ hrd1
 refine roundIn_of_wpIn trivial ?_
 have hcx1 : CtxOk P K bl.cx := by rw [hL.cx]; exact hcx
 have hI1 : Inv w A bl s.hp ⟨Liv bl s.hp, some (b, r0), []⟩ n w A bl fr s.hp { tmps := (r0.params.zip us.toArray).foldl (fun tmps (t, a) => tmps.setIfInBounds t a) r0.tmps, defers := [] } :=
   ⟨hR, by rw [hzip]; exact hF1, by rw [hzip]; exact hsz1, ⟨by simp, by simp⟩, fun x hx => by simp only [Option.some.injEq] at hx; subst hx; exact ⟨rfl, hrec, hlA, hlL⟩, Le.refl _ _ _ _, Evo.refl _ _ _, by simp⟩
 refine ha w A bl s.hp ⟨Liv bl s.hp, some (b, r0), []⟩ w A bl _ _ rfl hcx1 hI1 fun w2 A2 bl2 a2 hI2 => ?_
 obtain ⟨hd2, hrec2, hlA2, hlL2⟩ := hI2.rnd _ rfl
 simp only at hrec2 hlA2 hlL2
 refine ⟨_, run_beginRound hrec2 hst, ?_⟩
 obtain ⟨hR3, hl3⟩ := hI2.rep.putObj hlA2 hlL2 (.loop { r0 with state := .busy })
 have hb2 : b < w2.heap.size := (Array.getElem?_eq_some_iff.1 hrec2).1
 have hrec3 := World.putObj_heap_same (w := w2) (o := .loop { r0 with state := .busy }) hb2
 generalize hw3 : w2.putObj b (.loop { r0 with state := .busy }) = w3 at hR3 hl3 hrec3 ⊢
 have hlen3 : s.hp.length <= s1.hp.length := hI2.le.len
 have hle3 : Le w A bl s.hp w3 A2 bl2 (s1.hp.take s.hp.length) := (hI2.le.trans hl3).trunc (Nat.le_refl _)
 have hcx3 : CtxOk P K bl2.cx := by rw [hI2.le.cx]; exact hcx1
 have hI3 : Inv w3 A2 bl2 (s1.hp.take s.hp.length) ⟨Liv bl2 s1.hp, some (b, { r0 with state := .busy }), []⟩ n w3 A2 bl2 s1.fr s1.hp a2 := by
   exact ⟨hR3, hI2.frm.mono hl3, hI2.size, (by rw [hd2]; exact ⟨fun d hd => (by simp at hd), by simp⟩), fun x hx => by simp only [Option.some.injEq] at hx; subst hx; exact ⟨hd2, hrec3, hlA2, hlL2⟩, Le.taken _, Evo.refl _ _ _, by simp⟩
 refine hb w3 A2 bl2 (s1.hp.take s.hp.length) ⟨Liv bl2 s1.hp, some (b, { r0 with state := .busy }), []⟩ w3 A2 bl2 a2 _ (by simp; omega) hcx3 hI3 fun w4 A4 bl4 a4 hI4 => ?_
 obtain ⟨_, hrec4, hlA4, hlL4⟩ := hI4.rnd _ rfl
 simp only at hrec4 hlA4 hlL4
 refine roundPost_of (run_endRound _ hrec4) ?_
 have hb4 : b < w4.heap.size := (Array.getElem?_eq_some_iff.1 hrec4).1
 -- the round as a whole
 have hLe4 : Le w A bl s.hp w4 A4 bl4 s2.hp := hle3.trans hI4.le
 generalize hr5 : ({ { r0 with state := LoopState.busy } with state := if (jumpOf ex1).isNone = true then LoopState.ready else LoopState.done, pending := jumpOf ex1 } : Loop) = r5
 obtain ⟨hR5, hl5⟩ := hI4.rep.putObj hlA4 hlL4 (.loop r5)
 have hrec5 := World.putObj_heap_same (w := w4) (o := .loop r5) hb4
 have hle5 := hLe4.trans hl5
 have hsz3 : w3.heap.size = w2.heap.size := by subst hw3; simp
 have hk23 : ∀ c, c ≠ b -> w3.heap[c]? = w2.heap[c]? := fun c hc => by subst hw3; exact World.putObj_heap_other hc
 have hk5 : ∀ c, c ≠ b -> (w4.putObj b (.loop r5)).heap[c]? = w4.heap[c]? := fun c hc => World.putObj_heap_other hc
 have hos : w3.os = w2.os /\ w3.tape = w2.tape /\ w3.output = w2.output := by subst hw3; exact ⟨rfl, rfl, rfl⟩
 have hlive2 : ∀ c, Liv bl2 s1.hp c -> Liv bl s.hp c \/ w.heap.size <= c := hI2.evo.live
 have hlive4 : ∀ c, Liv bl4 s2.hp c -> Liv bl s.hp c \/ w.heap.size <= c := fun c hc => (hI4.evo.live c hc).elim (hlive2 c) fun h => by have := hI2.evo.size; exact .inr (by omega)
 have hfrom4 : ∀ c, A4 c -> A c \/ Liv bl s.hp c \/ w.heap.size <= c := fun c hc => by
   rcases hI4.evo.from_ c hc with h | h | h
   · exact hI2.evo.from_ c h
   · exact .inr (hlive2 c h)
   · have := hI2.evo.size; exact .inr (.inr (by omega))
 have hkeep4 : ∀ c, c < w.heap.size -> ¬ Liv bl s.hp c -> c ≠ b -> w4.heap[c]? = w.heap[c]? := fun c hc hL hne => by
   have k1 := hI2.evo.keep c hc hL
   have k2 : ¬ Liv bl2 s1.hp c := fun h => (hlive2 c h).elim hL fun h => by omega
   exact (hI4.evo.keep c (by have := hI2.evo.size; omega) k2).trans ((hk23 c hne).trans k1)
 have evo : ∀ X' : Nat -> Prop, (∀ c, X' c -> Liv bl4 s2.hp c) -> YEvo w A X b (w4.putObj b (.loop r5)) A4 X' := fun X' hX' =>
   ⟨hI4.evo.os.trans (hos.1.trans hI2.evo.os), hI4.evo.tape.trans (hos.2.1.trans hI2.evo.tape), hI4.evo.output.trans (hos.2.2.trans hI2.evo.output),
    by have := hI2.evo.size; have := hI4.evo.size; simp; omega, fun c hc hL hne => (hk5 c hne).trans (hkeep4 c hc (fun h => hL ((hX c).2 h)) hne), hLe4.A,
    fun c hc => (hfrom4 c hc).imp id fun h => h.imp (hX c).2 id, fun c hc => (hlive4 c (hX' c hc)).imp (hX c).2 id, hR5.alt, fun c hc => (liv_lt hR5 (hX' c hc)).1,
    fun c hc => hc.elim (fun h => (liv_lt hR5 (hX' c h)).2) (fun h => h ▸ hlA4), fun h => hlL4 (hX' b h)⟩
 rcases halt with ⟨rfl, s3, es', hnm, hes'⟩ | ⟨hne, rfl, rfl, rfl, rfl⟩
 · obtain ⟨bl6, g1, g2, g3, g4⟩ := norm_parts (tmps := r0.tmps) hnm hR5 (hF.mono hle5) (hL.trans hle5)
   refine ⟨A4, Liv bl6 s3.hp, by rw [yoAns_nrm hes']; rfl, ⟨rfl, bl6, s3, r0, ?_, hlA4, fun h => hlL4 (g4 _ h), g1, g2, g3, fun c => Iff.rfl, .inl ⟨es', hes', rfl⟩⟩, evo _ g4⟩
   rw [hrec5, <- hr5]
   cases r0
   simp only at hst hpe
   subst hst; subst hpe
   rfl
 · refine ⟨A4, Liv bl4 s2.hp, ?_, ⟨rfl, bl4, ⟨s.fr, s2.hp⟩, r5, hrec5, hlA4, hlL4, hR5, hF.mono hle5, hL.trans hle5, fun c => Iff.rfl, .inr ⟨rfl, rfl, rfl, hne, ?_⟩⟩, evo _ fun _ h => h⟩
   · cases ex <;> first | exact absurd rfl hne | rfl
   · rw [<- hr5]
     cases ex <;> first | exact absurd rfl hne | rfl
theorem enter_loop {ro : Option Nat} (hro : ∀ l0, ro = some l0 -> ∃ r0, w.heap[l0]? = some (.loop r0)) (fn : FuncId) (tmps : Array Value) (ps : Array Tmp) (asn bd : Code) :
   ∃ l mark w1 rec, (Instr.enterLoop fn tmps ps asn bd ro).run P w = .ok (l, mark) w1 /\ Grow w w1 /\ w.heap.size <= l /\ l < w1.heap.size /\ w1.heap[l]? = some (.loop rec) /\ rec.state = .ready /\ rec.pending = none /\ rec.tmps = tmps /\ rec.params = ps /\ rec.assign = asn /\ rec.body = bd ∧
     (ro.isSome = true -> mark = []) /\ mark.length <= 1 /\ ∀ d ∈ mark, ∃ D, d.target = .collected D /\ w.heap.size <= D /\ D < w1.heap.size /\ D ≠ l /\ w1.heap[D]? = some (.deferred (some [])) := by
 cases ro with
 | none =>
   refine ⟨_, _, _, { state := .ready, pending := none, fn, tmps, params := ps, assign := asn, body := bd, defers := w.heap.size }, run_enterLoop_outer fn tmps ps asn bd, (Grow.alloc w _).trans (Grow.alloc _ _), by omega, by simp, ?_, rfl, rfl, rfl, rfl, rfl, rfl, by simp, by simp, fun d hd => ?_⟩
   · have := World.alloc_heap_new (w.alloc (.deferred (some []))) (.loop { state := .ready, pending := none, fn, tmps, params := ps, assign := asn, body := bd, defers := w.heap.size })
     simpa using this
   · simp only [List.mem_singleton] at hd
     subst hd
     refine ⟨w.heap.size, rfl, Nat.le_refl _, by simp; omega, by omega, ?_⟩
     rw [(Grow.alloc (w.alloc (.deferred (some []))) _).keep _ (by simp)]
     exact World.alloc_heap_new w _
 | some l0 =>
   obtain ⟨r0, h0⟩ := hro l0 rfl
   exact ⟨_, _, _, { state := .ready, pending := none, fn, tmps, params := ps, assign := asn, body := bd, defers := r0.defers }, run_enterLoop_inner h0 fn tmps ps asn bd, Grow.alloc w _, Nat.le_refl _, by simp, World.alloc_heap_new w _, rfl, rfl, rfl, rfl, rfl, rfl, fun _ => rfl, by simp, fun d hd => by simp at hd⟩
theorem rangeF_sound {f : Operand} {s s' : St} {ex : Ex} (hcf : CFok P K cf) (hrd : ∀ m s ex s', rd m s = some (ex, s') -> ∃ s1, CSound P K n asn m s .nrm s1 /\ CSound P K n bd m s1 ex s')
   (h : rangeF E cf g n m f ps.toList bd rd s = some (ex, s')) : CSound P K n (.rangeFunc f ps asn bd) m s ex s' := by
 intro w0 A0 bl0 H0 z w A bl a Q hm hcx hI0 hQ
 subst hm
 unfold rangeF at h
 split at h
 case h_2 => simp at h
 rename_i s1 hnorm
 obtain ⟨bl1, hI⟩ := norm_sound hnorm hI0
 unfold rangeG at h
 split at h
 case h_2 => simp at h
 rename_i gi caps hopd
 obtain ⟨vs, hfv, hcl, hcr⟩ := (opd_rep hI.frm hopd).fn_inv
 split at h
 case h_2 => simp at h
 rename_i args h0 ids hiter
 unfold iterOf at hiter
 dsimp only at hiter
 generalize reach s1.hp (2 * s1.hp.length + 40) (idsL caps) [] = ids' at hiter
 split at hiter
 case h_2 => simp at hiter
 rename_i h0' ht
 split at hiter <;> simp only [Option.some.injEq, Prod.mk.injEq, reduceCtorEq] at hiter
 rename_i hd
 obtain ⟨hargs0, rfl, rfl⟩ := hiter
 obtain ⟨ht, hn0⟩ := takeC_some ht
 split at h
 case h_2 => simp at h
 rename_i es hseq
 split at h
 case h_2 => simp at h
 rename_i ex1 s2 u t hrounds
 split at h
 case h_2 => simp at h
 rename_i vals h1 hcall
 split at h <;> simp only [Option.some.injEq, Prod.mk.injEq, reduceCtorEq] at h
 rename_i hspent
 obtain ⟨rfl, rfl⟩ := h
 obtain ⟨hent, hsound⟩ := hcf _ _ _ _ _ hcall
 have hbc : bl1.cx = bl0.cx := hI.le.cx
 refine wpIn_rangeFunc fun fn _ => ?_
 obtain ⟨l, mark, w1, rec, he, hg, hlw, hl1, hrec, hst, hpe, htm, hps, has, hbd, hmk0, hmk1, hmk⟩ := enter_loop (P := P) (w := w) (ro := z.F.round) (fun l0 hl0 => by
   unfold Rnd.F at hl0
   simp only [Option.map_eq_some_iff] at hl0
   obtain ⟨x, hx, rfl⟩ := hl0
   exact ⟨_, (hI.rnd x hx).2.1⟩) fn a.tmps ps asn bd
 have hres : (resolve a.eval (rangeCall f l) 0).run P w1 = .ok { target := .fn (.func gi) vs, args := #[.func (.yield l) #[] #[]] } w1 := by
   simp only [resolve, hfv, Deferred.ofValue, Sem.run_pure]
   simp [Act.eval]
 refine ⟨l, mark, w1, _, w1, gi, _, w1, he, hres, fun _ _ => trivial, hent _ w1, fun h => by simp [Rnd.F, Fence.wide] at h, ?_⟩
 -- what the iterator is handed
 obtain ⟨hR1, hl01⟩ := hI.rep.still (w' := w1) (fun _ h => h) (fun c hc => Nat.lt_of_lt_of_le (hI.rep.alt c hc) hg.size) (fun c hc => (liv_lt hI.rep hc).2) (fun c hc => hg.keep c (hc.elim (fun h => (liv_lt hI.rep h).1) (hI.rep.alt c))) hg.size hg.os hg.tape hg.output
 have hS := sub_rep hR1 ht hd
 obtain ⟨t1, t2⟩ := take_at ht
 obtain ⟨hRG, hlG, halG⟩ := goneAt_rep (ids := ids') hR1
 have hLG : ∀ c, Liv bl1 (goneAt ids' s1.hp) c -> Liv bl1 s1.hp c := fun c hc => hc.elim (fun ⟨j, d, h1, h2⟩ => .inl ⟨j, d, (halG j h1).1, h2⟩) .inr
 have hnm : norm E g H0.length bd = norm E g H0.length bd := rfl
 let cx : Ctx := { K := bl1.cx.K, Y := fun r s b A X w => YY w0 A0 bl0 H0 n (norm E g H0.length bd) rd rec l ex1 s2 r s b A X w, stable := fun h => YY.stable h }
 let blS : Bl := { subBl bl1 ids' with X := Liv bl1 (goneAt ids' s1.hp), cx := cx }
 let blI : Bl := { loc := fun k => if k = ids'.length then some (l, 0) else subBl bl1 ids' k, X := Liv bl1 (goneAt ids' s1.hp), cx := cx }
 have hI1 : ∀ k, k < ids'.length -> blI k = blS k := fun k hk => if_neg (Nat.ne_of_lt hk)
 have hIl : blI ids'.length = some (l, 0) := if_pos rfl
 have at1 : ∀ {k o}, k < ids'.length -> (h0' ++ [O.yo u t])[k]? = some o -> h0'[k]? = some o := fun {k o} hk h => by rwa [List.getElem?_append_left (by omega)] at h
 have at2 : (h0' ++ [O.yo u t])[ids'.length]? = some (.yo u t) := by rw [<- t1]; simp
 have kinds : ∀ {k o}, (h0' ++ [O.yo u t])[k]? = some o -> (k < ids'.length /\ h0'[k]? = some o) \/ (k = ids'.length /\ o = .yo u t) := fun {k o} h => by
   have := (List.getElem?_eq_some_iff.1 h).1
   simp at this
   rcases Nat.lt_or_ge k ids'.length with hk | hk
   · exact .inl ⟨hk, at1 hk h⟩
   · have : k = ids'.length := by omega
     subst this
     rw [at2] at h
     simp only [Option.some.injEq] at h
     exact .inr ⟨rfl, h.symm⟩
 have hleS : Le w1 A blS h0' w1 A blI (h0' ++ [O.yo u t]) :=
   ⟨fun _ _ => rfl, fun _ h => h, by simp, fun i z e xs hi h => ⟨e, xs, at1 (by omega) h, Nat.le_refl _, fun _ => ⟨rfl, hI1 i (by omega)⟩⟩, fun i cs hi h => ⟨cs, at1 (by omega) h, hI1 i (by omega)⟩, fun i r s hi h => ⟨r, s, at1 (by omega) h, hI1 i (by omega)⟩, rfl, fun _ _ _ _ _ _ _ _ _ _ _ h => h⟩
 have hsrc : ∀ {k b d}, alive (h0' ++ [O.yo u t]) k -> blI k = some (b, d) -> (k < ids'.length /\ alive h0' k /\ subBl bl1 ids' k = some (b, d)) \/ (k = ids'.length /\ b = l) := fun {k b d} ⟨o, h1, h2⟩ hb => by
   rcases kinds h1 with ⟨hk, h⟩ | ⟨hk, h⟩
   · rw [hI1 k hk] at hb; exact .inl ⟨hk, ⟨o, h, h2⟩, hb⟩
   · subst hk; rw [hIl] at hb; simp only [Option.some.injEq, Prod.mk.injEq] at hb; exact .inr ⟨rfl, hb.1.symm⟩
 have hown : ∀ {k b d}, alive h0' k -> subBl bl1 ids' k = some (b, d) -> b < w.heap.size /\ ¬ A b /\ Liv bl1 s1.hp b /\ ¬ Liv bl1 (goneAt ids' s1.hp) b := fun {k b d} ha hb => by
   obtain ⟨i, k1, k2⟩ := sub_alive ht ha
   simp only [subBl, k1] at hb
   obtain ⟨q1, q2⟩ := hI.rep.lt i b d k2 hb
   refine ⟨q1, q2, .inl ⟨i, d, k2, hb⟩, fun h => ?_⟩
   rcases h with ⟨j, d', j1, j2⟩ | h
   · exact hI.rep.inj i j b d d' (fun e => (halG j j1).2 (e ▸ List.mem_of_getElem? k1)) k2 (halG j j1).1 hb j2
   · exact hI.rep.xinj i b d k2 hb h
 have hlA : ¬ A l := fun h => by have := hI.rep.alt l h; omega
 have hlL : ¬ Liv bl1 s1.hp l := fun h => by have := (liv_lt hI.rep h).1; omega
 have hRI : RepH w1 A blI (h0' ++ [O.yo u t]) := by
   refine ⟨fun k o hk => ?_, fun k k' b d d' hne ha ha' hb hb' => ?_, fun k b d ha hb => ?_, hR1.alt, fun b hb => liv_lt hR1 (hLG b hb), fun k b d ha hb hX => ?_, hR1.base⟩
   · rcases kinds hk with ⟨hlt, hk'⟩ | ⟨rfl, rfl⟩
     · have hny : ∀ r s, o ≠ .yo r s := fun r s e => noYo_at hn0 k r s (e ▸ hk')
       exact ((hS.obj k o hk').cx (X := Liv bl1 (goneAt ids' s1.hp)) (cx := cx) hny).mono2 hleS (hI1 k hlt) (fun _ _ _ => rfl) hny
     · exact ⟨l, hIl, rfl, bl1, ⟨s1.fr, goneAt ids' s1.hp⟩, rec, hrec, hlA, fun h => hlL (hLG _ h), hRG, by rw [htm]; exact hI.frm.mono (hl01.trans hlG), (hI.le.trans hl01).trans hlG, fun c => Iff.rfl, .inl ⟨es, by rw [hps]; exact hrounds, rfl⟩⟩
   · rcases hsrc ha hb with ⟨h1, h2, h3⟩ | ⟨h1, h2⟩ <;> rcases hsrc ha' hb' with ⟨g1, g2, g3⟩ | ⟨g1, g2⟩
     · exact hS.inj k k' b d d' hne h2 g2 h3 g3
     · have := (hown h2 h3).1; omega
     · have := (hown g2 g3).1; omega
     · omega
   · rcases hsrc ha hb with ⟨h1, h2, h3⟩ | ⟨h1, h2⟩
     · exact ⟨Nat.lt_of_lt_of_le (hown h2 h3).1 hg.size, (hown h2 h3).2.1⟩
     · subst h2; exact ⟨hl1, hlA⟩
   · rcases hsrc ha hb with ⟨h1, h2, h3⟩ | ⟨h1, h2⟩
     · exact (hown h2 h3).2.2.2 hX
     · subst h2; exact hlL (hLG _ hX)
 have hLI : ∀ c, Liv blI (h0' ++ [O.yo u t]) c -> Liv bl1 s1.hp c \/ c = l := fun c hc => by
   rcases hc with ⟨k, d, h1, h2⟩ | h
   · rcases hsrc h1 h2 with ⟨q1, q2, q3⟩ | ⟨q1, q2⟩
     · exact .inl (hown q2 q3).2.2.1
     · exact .inr q2
   · exact .inl (hLG _ h)
 have hcxI : CtxOk P K blI.cx := by
   refine ⟨fun w hw => hcx.base w (by rw [<- hbc]; exact hw), fun {e r s b A X w} hY bl' H' us hus => ?_⟩
   exact YY.yield (by rw [has, hbd]; exact hrd) hcx (by rw [htm]; exact hI.size) hst hpe hY bl' H' us hus
 have hargsI : RepL w1 A blI (h0' ++ [O.yo u t]) args (Value.func (.yield l) #[] #[] :: vs.toList) := by
   rw [<- hargs0]
   refine mapTL_rep (fun z x u => C.fix_rep (x := x) (u := u) z) (E.fx gi) ?_
   have hc : RepL w1 A bl1 s1.hp caps vs.toList := ⟨by simpa using hcl, fun j x u hj hu => (hcr j x u hj (by simpa using hu)).mono hl01⟩
   have hc2 := repL_ren (sub_ren (bl := bl1) ht) hc
   refine ⟨by simp [hc2.1], fun j x v hj hv => ?_⟩
   cases j with
   | zero =>
     simp only [List.getElem?_cons_zero, Option.some.injEq] at hj hv
     subst hj; subst hv
     exact .yl _ _ (by simp [t1]) fun _ _ _ => hIl
   | succ j =>
     simp only [List.getElem?_cons_succ] at hj hv
     exact ((hc2.2 j x v hj hv).cx (X := Liv bl1 (goneAt ids' s1.hp)) (cx := cx)).mono hleS
 -- the iterator's run
 have hrun := hsound w1 A blI _ hcxI hRI hargsI
 have e2 : (#[Value.func (.yield l) #[] #[]] ++ vs : Array Value) = (Value.func (.yield l) #[] #[] :: vs.toList).toArray := by simp
 rw [e2]
 refine (callsIn_wide (n := 0 - 1)).2 (hrun.mono ?_)
 rintro e w' ⟨A', blF, rs, rfl, _, hRF, hleF, hevF⟩
 unfold spent at hspent
 split at hspent
 case h_2 => simp at hspent
 rename_i r st hyo
 have hr0 : r = [] := by simpa using hspent
 subst hr0
 obtain ⟨b, hbF, hYF⟩ := hRF.obj _ _ hyo
 rw [hleF.cx] at hYF
 obtain ⟨rfl, bl2, s2', r0, hrec2, hlA2, hlL2, hR2, hF2, hL2, hX2, hcase⟩ := (hYF : YY w0 A0 bl0 H0 n (norm E g H0.length bd) rd rec l ex1 s2 [] st b A' blF.X w')
 obtain ⟨rfl, hpend, hbusy⟩ : s2' = s2 /\ r0.pending = jumpOf ex1 /\ r0.state ≠ .busy := by
   rcases hcase with ⟨es', hes', rfl⟩ | ⟨_, _, rfl, _, rfl⟩
   · obtain ⟨rfl, rfl, _⟩ := roundsE_nil hes'
     exact ⟨rfl, hpe, by rw [hst]; simp⟩
   · exact ⟨rfl, rfl, by simp⟩
 refine ⟨_, _, run_endLoop hrec2 hbusy, ?_⟩
 obtain ⟨hR4, hl4⟩ := hR2.putObj hlA2 hlL2 (.loop { r0 with state := .exhausted })
 generalize hw4 : w'.putObj b (.loop { r0 with state := .exhausted }) = w4 at hR4 hl4 ⊢
 have hk4 : ∀ c, c ≠ b -> w4.heap[c]? = w'.heap[c]? := fun c hc => by subst hw4; exact World.putObj_heap_other hc
 have hsz4 : w4.heap.size = w'.heap.size := by subst hw4; simp
 have hos : w4.os = w'.os /\ w4.tape = w'.tape /\ w4.output = w'.output := by subst hw4; exact ⟨rfl, rfl, rfl⟩
 have hev : Evo w A (Liv bl1 s1.hp) w4 A' (Liv bl2 s2'.hp) := by
   refine ⟨hos.1.trans (hevF.os.trans hg.os), hos.2.1.trans (hevF.tape.trans hg.tape), hos.2.2.trans (hevF.output.trans hg.output), by have := hg.size; have := hevF.size; omega, fun c hc hL => ?_, fun c hc => ?_, fun c hc => ?_⟩
   · exact (hk4 c (by omega)).trans ((hevF.keep c (Nat.lt_of_lt_of_le hc hg.size) fun h => (hLI c h).elim hL fun h => by omega).trans (hg.keep c hc))
   · rcases hevF.live c (.inr ((hX2 c).2 hc)) with h | h
     · exact (hLI c h).imp id fun h => by omega
     · exact .inr (Nat.le_trans hg.size h)
   · rcases hevF.from_ c hc with h | h | h
     · exact .inl h
     · exact .inr ((hLI c h).imp id fun h => by omega)
     · exact .inr (.inr (Nat.le_trans hg.size h))
 have hfin := hI.step hR4 (by rw [htm] at hF2; exact hF2.mono hl4) (hL2.trans hl4) hev
 have hfin' : Inv w0 A0 bl0 H0 z n w4 A' bl2 s2'.fr s2'.hp { a with defers := mark ++ a.defers } := by
   have hcross : ∀ d ∈ mark, ∀ d' ∈ a.defers, d.target ≠ d'.target := fun d hd d' hd' e => by
     obtain ⟨D, h1, h2, _⟩ := hmk d hd
     obtain ⟨D', g1, _, g2, _⟩ := hI.marks.1 d' hd'
     rw [h1, g1] at e
     simp only [Target.collected.injEq] at e
     omega
   refine ⟨hfin.rep, hfin.frm, hfin.size, ⟨fun d hd => ?_, List.pairwise_append.2 ⟨?_, hfin.marks.2, hcross⟩⟩, fun x hx => ?_, hfin.le, hfin.evo, hfin.far⟩
   · rcases List.mem_append.1 hd with hd | hd
     · obtain ⟨D, h1, h2, h3, h4, h5⟩ := hmk d hd
       have hDA : ¬ A D := fun h => by have := hI.rep.alt D h; omega
       have hDL : ¬ Liv blI (h0' ++ [O.yo u t]) D := fun h => (hLI D h).elim (fun h => by have := (liv_lt hI.rep h).1; omega) h4
       obtain ⟨g1, g2, g3, g4⟩ := hevF.far h3 hDA hDL
       exact ⟨D, h1, Nat.le_trans hI.evo.size h2, by omega, (hk4 D h4).trans (g1.trans h5), g2, fun h => g3 (.inr ((hX2 D).2 h))⟩
     · exact hfin.marks.1 d hd
   · match mark, hmk1 with
     | [], _ => simp
     | [_], _ => simp
   · obtain ⟨h1, h2⟩ := hfin.rnd x hx
     refine ⟨?_, h2⟩
     rw [hmk0 (by simp [Rnd.F, hx])]
     exact h1
 have hq := hQ _ _ _ _ hfin'
 simp only [hpend]
 cases ex1 with
 | nrm => exact hq
 | exit i => exact wpIn_exit hq
 | ret => exact wpIn_ret hq
end
end Go.Ev
namespace Go.Ev
section
variable {P : Program} {K : World -> Prop} {w0 : World} {A0 : Nat -> Prop} {bl0 : Bl} {H0 : Hp} {z : Rnd} {n : Nat} {w w' : World} {A A' : Nat -> Prop} {bl bl' : Bl} {H H' : Hp} {fr fr' : Fr} {a : Act}
theorem stepR_scope {b : Frame} {k : List Item} {cs : List Frame} {c : Code} : step P (lone (b.atR a (.code (.scope c) :: k)) cs w) = .next (lone (b.atR a (.code c :: .inScope c :: k)) cs w) :=
 step_lone_go (by simp [stepG, stepG.exec, Frame.atR])
theorem stepR_inScope {b : Frame} {k : List Item} {cs : List Frame} {c : Code} : step P (lone (b.atR a (.inScope c :: k)) cs w) = .next (lone (b.atR a k) cs w) :=
 step_lone_go (by simp [stepG, stepG.exec, Frame.atR])
theorem wpIn_scope_straight {F : Fence} {nn : Nat} {Q : Exit -> Act -> World -> Prop} {c : Code} (h : c.wpIn F nn P (Exit.noGoto Q) a w) : (Code.scope c).wpIn F nn P Q a w := by
 intro b k cs hro hb hr
 have h0 : (lone (b.atR a (.code (.scope c) :: k)) cs w).fenced P F := fenced_calm hb hr rfl
 obtain ⟨e, a₁, w₁, hq, harr⟩ := h b (.inScope c :: k) cs hro hb hr
 cases e with
 | normal => exact ⟨.normal, a₁, w₁, hq, .head h0 stepR_scope (StepsIn.trans harr (.one (fenced_calm hb hr rfl) stepR_inScope))⟩
 | exit id => exact ⟨.exit id, a₁, w₁, hq, fun k' hk => .head h0 stepR_scope (harr.1 k' (by simp [exitTo, hk])), fun hr' hk => let ⟨k₁, h1, h2⟩ := harr.2 hr' (by simp [exitTo, hk]); ⟨k₁, h1, .head h0 stepR_scope h2⟩⟩
 | goto l => exact hq.elim
 | ret => exact ⟨_, a₁, w₁, hq, .of_steps (.one h0 stepR_scope) harr⟩
 | panic ch => exact ⟨_, a₁, w₁, hq, .of_steps (.one h0 stepR_scope) harr⟩
 | outgrown => exact ⟨_, a₁, w₁, hq, .of_steps (.one h0 stepR_scope) harr⟩
theorem exec_sound (hdraw : DrawOk P K) {E : Env} {cf : CF} (hcf : CFok P K cf) (hT : ∀ t y, E.T t = some y -> tyOf P t = some y) {g : FuncId} {k : Nat} : ∀ (c : Code) {m : Nat} {s s' : St} {ex : Ex}, execF E cf k g n c m s = some (ex, s') -> CSound P K n c m s ex s' := by
 intro c
 induction c with
 | skip =>
   intro m s s' ex h w0 A0 bl0 H0 z w A bl a Q hm hcx hI hQ
   simp only [execF, exec, Option.some.injEq, Prod.mk.injEq] at h
   obtain ⟨rfl, rfl⟩ := h
   exact wpIn_skip (hQ _ _ _ _ hI)
 | label l =>
   intro m s s' ex h w0 A0 bl0 H0 z w A bl a Q hm hcx hI hQ
   simp only [execF, exec, Option.some.injEq, Prod.mk.injEq] at h
   obtain ⟨rfl, rfl⟩ := h
   exact wpIn_label (hQ _ _ _ _ hI)
 | region id ops draw =>
   intro m s s' ex h w0 A0 bl0 H0 z w A bl a Q hm hcx hI hQ
   simp only [execF, exec] at h
   split at h <;> simp only [Option.some.injEq, Prod.mk.injEq, reduceCtorEq] at h
   rename_i s1 hs1
   obtain ⟨rfl, rfl⟩ := h
   exact region_sound hdraw hcf hcx hT hs1 hI hQ
 | seq x y ihx ihy =>
   intro m s s' ex h w0 A0 bl0 H0 z w A bl a Q hm hcx hI hQ
   simp only [execF, exec] at h
   refine wpIn_seq ?_
   split at h
   · rename_i s1 h1
     exact ihx h1 _ _ _ _ _ _ _ _ _ _ hm hcx hI fun w' A' bl' a' hI' => ihy h _ _ _ _ _ _ _ _ _ _ hm hcx hI' hQ
   · rename_i hne
     refine ihx h _ _ _ _ _ _ _ _ _ _ hm hcx hI fun w' A' bl' a' hI' => ?_
     have := hQ w' A' bl' a' hI'
     cases ex with
     | nrm => exact absurd h (hne s')
     | exit i => exact this
     | ret => exact this
 | cond c x y ihx ihy =>
   intro m s s' ex h w0 A0 bl0 H0 z w A bl a Q hm hcx hI hQ
   simp only [execF, exec] at h
   split at h
   case h_2 => simp at h
   rename_i t hc
   have hcv := (opd_rep hI.frm hc).bool_inv
   refine wpIn_cond hcv ?_
   cases t with
   | true => exact ihx h _ _ _ _ _ _ _ _ _ _ hm hcx hI hQ
   | false => exact ihy h _ _ _ _ _ _ _ _ _ _ hm hcx hI hQ
 | block id b ih =>
   intro m s s' ex h w0 A0 bl0 H0 z w A bl a Q hm hcx hI hQ
   simp only [execF, exec] at h
   refine wpIn_block ?_
   split at h
   · rename_i i s1 h1
     refine ih h1 _ _ _ _ _ _ _ _ _ _ hm hcx hI fun w' A' bl' a' hI' => ?_
     simp only [exOf, Exit.inBlock]
     split at h <;> simp only [Option.some.injEq, Prod.mk.injEq] at h <;> obtain ⟨rfl, rfl⟩ := h
     · rename_i he
       rw [if_pos he]; exact hQ w' A' bl' a' hI'
     · rename_i he
       rw [if_neg he]; exact hQ w' A' bl' a' hI'
   · rename_i hne
     refine ih h _ _ _ _ _ _ _ _ _ _ hm hcx hI fun w' A' bl' a' hI' => ?_
     have := hQ w' A' bl' a' hI'
     cases ex with
     | nrm => exact this
     | exit i => exact absurd h (hne i s')
     | ret => exact this
 | loop b ih =>
   intro m s s' ex h w0 A0 bl0 H0 z w A bl a Q hm hcx hI hQ
   subst hm
   simp only [execF, exec] at h
   refine wpIn_loop_rounds k ?_
   have key : ∀ (K' : Nat) {s s' : St} {ex : Ex} {w : World} {A : Nat -> Prop} {bl : Bl} {a : Act} {Q : Exit -> Act -> World -> Prop},
       iterN K' (headed E g H0.length b (execF E cf k g n b H0.length)) s = some (ex, s') →
       Inv w0 A0 bl0 H0 z n w A bl s.fr s.hp a -> (∀ w' A' bl' a', Inv w0 A0 bl0 H0 z n w' A' bl' s'.fr s'.hp a' -> Q (exOf ex) a' w') -> Code.roundsIn z.F 0 P b Q K' a w := by
     intro K'
     induction K' with
     | zero => intro s s' ex w A bl a Q h; simp [iterN] at h
     | succ K' ihk =>
       intro s s' ex w A bl a Q h hI hQ
       simp only [iterN, headed] at h
       rw [roundsIn_succ]
       cases hnorm : norm E g H0.length b s with
       | none => simp [hnorm] at h
       | some s1 =>
         simp only [hnorm] at h
         obtain ⟨bl1, hI1⟩ := norm_sound hnorm hI
         split at h
         · rename_i s2 h2
           exact ih h2 _ _ _ _ _ _ _ _ _ _ rfl hcx hI1 fun w' A' bl' a' hI' => ihk h hI' hQ
         · rename_i hne
           refine ih h _ _ _ _ _ _ _ _ _ _ rfl hcx hI1 fun w' A' bl' a' hI' => ?_
           have := hQ w' A' bl' a' hI'
           cases ex with
           | nrm => exact absurd h (hne s')
           | exit i => exact this
           | ret => exact this
   exact key k h hI hQ
 | rangeFunc f ps x y ihx ihy =>
   intro m s s' ex h
   simp only [execF, exec] at h
   refine rangeF_sound hcf (fun m s ex s' h => ?_) h
   split at h
   case h_2 => simp at h
   rename_i s1 h1
   exact ⟨s1, ihx h1, ihy h⟩
 | exit id =>
   intro m s s' ex h w0 A0 bl0 H0 z w A bl a Q hm hcx hI hQ
   simp only [execF, exec, Option.some.injEq, Prod.mk.injEq] at h
   obtain ⟨rfl, rfl⟩ := h
   exact wpIn_exit (hQ _ _ _ _ hI)
 | scope b ih =>
   intro m s s' ex h w0 A0 bl0 H0 z w A bl a Q hm hcx hI hQ
   simp only [execF, exec] at h
   refine wpIn_scope_straight (ih h _ _ _ _ _ _ _ _ _ _ hm hcx hI fun w' A' bl' a' hI' => ?_)
   have := hQ w' A' bl' a' hI'
   cases ex <;> exact this
 | goto l => intro m s s' ex h; simp [execF, exec] at h
 | ret =>
   intro m s s' ex h w0 A0 bl0 H0 z w A bl a Q hm hcx hI hQ
   simp only [execF, exec, Option.some.injEq, Prod.mk.injEq] at h
   obtain ⟨rfl, rfl⟩ := h
   exact wpIn_ret (hQ _ _ _ _ hI)
 | refuse why => intro m s s' ex h; simp [execF, exec] at h
theorem frame0_get : ∀ {l : List V} {p t : Nat} {v : V}, get (frame0 p l) t = some v -> ∃ j, t = p + j /\ l[j]? = some v
 | [], p, t, v, h => by simp [frame0, get] at h
 | x :: r, p, t, v, h => by
   simp only [frame0, get] at h
   split at h
   · simp only [Option.some.injEq] at h
     exact ⟨0, by omega, by simp [h]⟩
   · obtain ⟨j, h1, h2⟩ := frame0_get h
     exact ⟨j + 1, by omega, by simpa using h2⟩
def resM (tmps : Array Value) : ResultVar -> Sem Value
 | .tmp t => pure (tmps.getD t undef)
 | .cell a t => do loadVar t (← asAddr (tmps.getD a undef))
theorem resL_run {T : TypeId -> Option Ty} (hT : ∀ t y, T t = some y -> tyOf P t = some y) {s : St} {tmps : Array Value} (hH : RepH w A bl s.hp) (hF : RepF w A bl s.hp s.fr tmps) : ∀ {rs : List ResultVar} {vals : List V}, resL T s rs = some vals →
   ∃ us, (rs.mapM (resM tmps)).run P w = .ok us w /\ RepL w A bl s.hp vals us
 | [], vals, h => by
   simp only [resL, Option.some.injEq] at h
   subst h
   exact ⟨[], rfl, rfl, fun j x u hj => by simp at hj⟩
 | .tmp t :: r, vals, h => by
   simp only [resL] at h
   split at h <;> simp only [Option.some.injEq, reduceCtorEq] at h
   rename_i v l hv hl
   subst h
   obtain ⟨us, h1, h2, h3⟩ := resL_run hT hH hF hl
   obtain ⟨u, g1, g2⟩ := hF.at_ t v hv
   refine ⟨u :: us, ?_, by simp [h2], fun j x u' hj hu => ?_⟩
   · simp only [List.mapM_cons, resM, Sem.run_bind, Sem.run_pure, Result.andThen_ok, h1]
     simp [Array.getD_eq_getD_getElem?, g1]
   · cases j with
     | zero => simp at hj hu; subst hj; subst hu; exact g2
     | succ j => simp at hj hu; exact h3 j x u' hj hu
 | .cell c t :: r, vals, h => by
   simp only [resL] at h
   split at h
   case h_2 => simp at h
   rename_i v y l hv hy hl
   split at h <;> simp only [Option.some.injEq, reduceCtorEq] at h
   rename_i x hx
   subst h
   obtain ⟨us, h1, h2, h3⟩ := resL_run hT hH hF hl
   obtain ⟨u, g1, g2⟩ := hF.at_ c v hv
   obtain ⟨q, q1, q2⟩ := loadV_run (P := P) hT hH hy hx g2
   obtain ⟨ad, rfl⟩ : ∃ ad, u = .pointer (some ad) := by
     unfold loadV at hx
     split at hx
     · obtain ⟨ad, h, _⟩ := g2.fp_inv; exact ⟨ad, h⟩
     · obtain ⟨ad, h, _⟩ := g2.ptr_inv; exact ⟨ad, h⟩
     · simp at hx
   refine ⟨q :: us, ?_, by simp [h2], fun j x u' hj hu => ?_⟩
   · have e : tmps.getD c undef = .pointer (some ad) := by simp [Array.getD_eq_getD_getElem?, g1]
     have q1' : (loadVar t ad).run P w = .ok q w := by
       unfold Instr.loadAt at q1
       simpa [Instr.sureAddr] using q1
     simp only [List.mapM_cons, resM, Sem.run_bind, e, asAddr, Sem.run_pure, Result.andThen_ok, q1', h1]
   · cases j with
     | zero => simp at hj hu; subst hj; subst hu; exact q2
     | succ j => simp at hj hu; exact h3 j x u' hj hu
theorem leave_sound {fz : Bool} {vals vals' : List V} {us : List Value} (hv : RepL w A bl H vals us) (hr : RepH w A bl H) (hl : Le w0 A0 bl0 H0 w A bl H) (he : Evo w0 A0 (Liv bl0 H0) w A (Liv bl H)) (h : leave fz H0.length vals H = some (vals', H')) :
   ∃ A' bl', RepL w A' bl' H' vals' us /\ RepH w A' bl' H' /\ Le w0 A0 bl0 H0 w A' bl' H' /\ Evo w0 A0 (Liv bl0 H0) w A' (Liv bl' H') := by
 unfold leave at h
 dsimp only at h
 split at h
 · simp only [Option.some.injEq, Prod.mk.injEq] at h
   obtain ⟨rfl, rfl⟩ := h
   exact ⟨A, bl, hv, hr, hl, he⟩
 · generalize (fun i => fz && decide (H0.length <= i) && (if fz = true then idsL vals else []).contains i : Nat -> Bool) = p at h
   split at h
   case h_2 => simp at h
   rename_i h1 ht
   split at h <;> simp only [Option.some.injEq, Prod.mk.injEq, reduceCtorEq] at h
   rename_i hd
   obtain ⟨rfl, rfl⟩ := h
   have r1 := frz_rep hr p
   exact ⟨_, _, repL_ren (sub_ren ht) (repL_frz hr hv), sub_rep r1 ht hd, sub_le (frz_le hl p) ht (fun i hi => gcK_pre hi), (he.trans (frz_evo hr p)).trans (Evo.less fun c hc => sub_liv ht hc)⟩
theorem results_pack (fn : Func) (tmps : Array Value) {us : List Value} (h : (fn.results.toList.mapM (resM tmps)).run P w = .ok us w) : (results fn tmps).run P w = .ok (pack us) w := by
 have e : results fn tmps = (do let vs ← fn.results.mapM (resM tmps); pure (if h : vs.size = 1 then vs[0] else .tuple vs)) := by
   unfold results
   congr 1
 rw [e, Array.mapM_eq_mapM_toList]
 simp only [Sem.run_bind, Sem.run_map, h, Result.andThen_ok, Sem.run_pure]
 match us with
 | [] => rfl
 | [u] => rfl
 | _ :: _ :: _ => rfl
theorem marks_end {fn : Func} {tmps : Array Value} {R : Ending -> World -> Prop} {L : Nat -> Prop} : ∀ {ds : List Deferred} {w : World}, (∀ d ∈ ds, MarkOk w0 w A L d) -> ds.Pairwise (fun d d' => d.target ≠ d'.target) →
   (∀ w', (∀ c, A c \/ L c \/ c < w0.heap.size -> w'.heap[c]? = w.heap[c]?) -> w'.heap.size = w.heap.size -> w'.os = w.os -> w'.tape = w.tape -> w'.output = w.output -> LeavesIn Fence.wide 0 P fn tmps R [] .returning w') -> LeavesInM Fence.wide 0 P fn tmps R ds .returning w
 | [], w, _, _, h => h w (fun _ _ => rfl) rfl rfl rfl rfl
 | d :: ds, w, hm, hd, h => by
   obtain ⟨D, h1, h2, h3, h4, h5, h6⟩ := hm d (by simp)
   rw [List.pairwise_cons] at hd
   refine ⟨by simp, .inl ⟨D, _, h1, run_takeDeferred h4, marks_end (fun d' hd' => ?_) hd.2 fun w' k1 k2 k3 k4 k5 => h w' (fun c hc => (k1 c hc).trans (World.putObj_heap_other fun e => ?_)) (by rw [k2]; simp) k3 k4 k5⟩⟩
   · obtain ⟨D', g1, g2, g3, g4, g5, g6⟩ := hm d' (by simp [hd'])
     refine ⟨D', g1, g2, by simpa using g3, (World.putObj_heap_other fun e => ?_).trans g4, g5, g6⟩
     subst e
     exact hd.1 d' hd' (h1.trans g1.symm)
   · subst e
     rcases hc with hc | hc | hc
     · exact h5 hc
     · exact h6 hc
     · omega
theorem runF_sound (hdraw : DrawOk P K) {E : Env} {cf : CF} (hcf : CFok P K cf) (hT : ∀ t y, E.T t = some y -> tyOf P t = some y) {k : Nat} {g : FuncId} {fn : Func} (hfn : P.funcs[g]? = some fn) {args vals : List V} {H H' : Hp} (h : runF E cf k g fn args H = some (vals, H')) : Sound P K g args H vals H' := by
 intro w A bl us hcx hH hargs
 unfold runF at h
 split at h
 case h_1 => simp at h
 rename_i code hcode
 dsimp only at h
 have hlen := hargs.1
 have hI : Inv w A bl H ⟨Liv bl H, none, []⟩ (args.length + (fn.ntmps - args.length)) w A bl (frame0 0 args) H { tmps := us.toArray ++ Array.replicate (fn.ntmps - us.toArray.size) undef, defers := [] } := by
   refine ⟨hH, ⟨fun t v ht => ?_⟩, by simp [hlen], ⟨by simp, by simp⟩, by simp, Le.refl _ _ _ _, Evo.refl _ _ _, by simp⟩
   obtain ⟨j, rfl, hj⟩ := frame0_get ht
   have hlt := (List.getElem?_eq_some_iff.1 hj).1
   refine ⟨us[j]'(by omega), ?_, hargs.2 j v _ hj (by simp)⟩
   rw [Nat.zero_add, Array.getElem?_append_left (by simp; omega)]
   simp
 have fin : ∀ {ex : Ex} {s : St}, execF E cf k g (args.length + (fn.ntmps - args.length)) code H.length ⟨frame0 0 args, H⟩ = some (ex, s) -> (ex = .nrm \/ ex = .ret) →
     (match resW E g s fn.results.toList with | some vals => leave (E.frz g) H.length vals s.hp | none => none) = some (vals, H') →
     Calls P g us.toArray w fun e w' => ∃ A' bl' rs, e = .returned (pack rs) /\ RepL w' A' bl' H' vals rs /\ RepH w' A' bl' H' /\ Le w A bl H w' A' bl' H' /\ Evo w A (Liv bl H) w' A' (Liv bl' H') := by
   intro ex s hex hnr hres
   refine (callsIn_wide (n := 0)).1 (callsIn_of_wp_marks hfn hcode trivial (exec_sound hdraw hcf hT code hex _ _ _ _ _ _ _ _ _ _ rfl hcx hI fun w' A' bl' a' hI' => ?_))
   have hpost : LeavesInM Fence.wide 0 P fn a'.tmps (fun e w' => ∃ A' bl' rs, e = .returned (pack rs) /\ RepL w' A' bl' H' vals rs /\ RepH w' A' bl' H' /\ Le w A bl H w' A' bl' H' /\ Evo w A (Liv bl H) w' A' (Liv bl' H')) a'.defers .returning w' := by
     refine marks_end hI'.marks.1 hI'.marks.2 fun w2 k1 k2 k3 k4 k5 => ?_
     obtain ⟨hr2, hl2⟩ := hI'.rep.still (w' := w2) (fun _ h => h) (fun c hc => by rw [k2]; exact hI'.rep.alt c hc) (fun c hc => (liv_lt hI'.rep hc).2) (fun c hc => k1 c (hc.elim (fun h => .inr (.inl h)) .inl)) (Nat.le_of_eq k2.symm) k3 k4 k5
     have hev : Evo w A (Liv bl H) w2 A' (Liv bl' s.hp) := ⟨k3.trans hI'.evo.os, k4.trans hI'.evo.tape, k5.trans hI'.evo.output, by rw [k2]; exact hI'.evo.size, fun c hc hL => (k1 c (.inr (.inr hc))).trans (hI'.evo.keep c hc hL), hI'.evo.live, hI'.evo.from_⟩
     split at hres
     case h_2 => simp at hres
     rename_i vals0 hv0
     unfold resW at hv0
     split at hv0 <;> simp only [Option.some.injEq, reduceCtorEq] at hv0
     rename_i vals00 hv00
     obtain ⟨rs, r1, r2⟩ := resL_run (P := P) hT hr2 (hI'.frm.mono hl2) hv00
     have r2 := mapTL_rep (fun z x u => C.weak_rep (x := x) (u := u) z) (E.wk g) r2
     rw [hv0] at r2
     obtain ⟨A2, bl2, q1, q2, q3, q4⟩ := leave_sound r2 hr2 (hI'.le.trans hl2) hev hres
     exact ⟨_, results_pack fn a'.tmps r1, A2, bl2, rs, rfl, q1, q2, q3, q4⟩
   rcases hnr with rfl | rfl <;> exact hpost
 split at h
 · rename_i s hs; exact fin hs (.inl rfl) h
 · rename_i s hs; exact fin hs (.inr rfl) h
 · simp at h
structure EnvOk (P : Program) (K : World -> Prop) (E : Env) : Prop where
 T : ∀ t y, E.T t = some y -> tyOf P t = some y
 B : ∀ g fn, E.B g = some fn -> P.funcs[g]? = some fn
 enter : ∀ g fn, E.B g = some fn -> fn.body.isSome = true -> (fn.name == "runtime.NumGoroutine") = false
 ext : ∀ g f args H vals H', E.ext g = some f -> f args H = some (vals, H') -> Enter P g /\ Sound P K g args H vals H'
theorem nilArg_rep {b : Bool} {args a1 a2 : List V} (h : nilArg b args = some (a1, a2)) {us : List Value} (hr : RepL w A bl H args us) : RepL w A bl H a1 us \/ RepL w A bl H a2 us := by
 unfold nilArg at h
 split at h <;> simp only [Option.some.injEq, Prod.mk.injEq, reduceCtorEq] at h
 rename_i z t r
 obtain ⟨rfl, rfl⟩ := h
 obtain ⟨h1, h2⟩ := hr
 match us, h1 with
 | u :: us, h1 =>
   have h0 := h2 0 _ u rfl rfl
   have build : ∀ x, RepV w A bl H x u -> RepL w A bl H (x :: r) (u :: us) := fun x hx => ⟨by simpa using h1, fun j y v hj hv => by
     cases j with
     | zero => simp at hj hv; subst hj; subst hv; exact hx
     | succ j => exact h2 (j + 1) y v hj hv⟩
   cases h0 with
   | c _ _ hc =>
     cases hc with
     | slnil => exact .inl (build _ (.c _ _ (.slnil _ _ _ (by simp))))
     | sl _ _ _ _ a cap vs g1 g2 g3 g4 g5 g6 g7 => exact .inr (build _ (.c _ _ (.sl _ _ _ _ a cap vs g1 (by simp) g3 g4 g5 g6 g7)))
theorem callN_sound (hdraw : DrawOk P K) {E : Env} (hE : EnvOk P K E) : ∀ k, CFok P K (callN E k)
 | 0 => fun g args H vals H' h => by simp [callN] at h
 | k + 1 => fun g args H vals H' h => by
   simp only [callN] at h
   split at h
   · rename_i f hf; exact hE.ext g f args H vals H' hf h
   · split at h
     case h_2 => simp at h
     rename_i fn hfn
     have ent : ∀ {args : List V} {vals : List V} {H' : Hp}, runF E (callN E k) k g fn args H = some (vals, H') -> Enter P g := by
       intro args vals H' h as w
       have hb : fn.body.isSome = true := by
         unfold runF at h
         split at h
         · simp at h
         · simp [*]
       have hn := hE.enter g fn hfn hb
       have hnone : fn.body.isNone = false := by simpa using hb
       simp only [callFunc, Sem.run_bind, run_program, Result.andThen_ok, hE.B g fn hfn]
       rw [if_neg (by simpa using hn), if_neg (by simp [hnone])]
       rfl
     split at h
     · rename_i a1 a2 hna
       unfold both at h
       split at h
       case isFalse => simp at h
       rename_i hs
       have h' := h
       rw [sameR_eq hs] at h'
       refine ⟨ent h, fun w A bl us hcx hH hargs => ?_⟩
       rcases nilArg_rep hna hargs with h1 | h1
       · exact runF_sound hdraw (callN_sound hdraw hE k) hE.T (hE.B g fn hfn) h w A bl us hcx hH h1
       · exact runF_sound hdraw (callN_sound hdraw hE k) hE.T (hE.B g fn hfn) h' w A bl us hcx hH h1
     · exact ⟨ent h, runF_sound hdraw (callN_sound hdraw hE k) hE.T (hE.B g fn hfn) h⟩
end
end Go.Ev
