/-
  EV, part U: code as a decision tree, and what a tree says of the code.
-/
import Derived.Test.YtbilmkcdhodenaaDoorEvT
set_option linter.all false
set_option linter.unusedSimpArgs false
set_option linter.unusedVariables false
namespace Go.Ev

inductive R where
  | st (e : Ex) (fr : Fr) (hp : Hp)
  | out (vals : List V) (hp : Hp)

/-- A decision tree. 'lp j fr hp': at the loop j of this code, in this state; 'rg': at the loop over an iterator. -/
inductive Tr where
  | leaf (r : R)
  | br (b : Bool) (x y : Tr)
  | chk (b : Bool) (x : Tr)
  | lp (j : Nat) (fr : Fr) (hp : Hp)
  | rg (j : Nat) (fr : Fr) (hp : Hp)
  | fail

def chks : List Bool → Tr → Tr
  | [], x => x
  | b :: r, x => .chk b (chks r x)

/-- What is known of functions: conditions, values, heap. -/
abbrev CT := FuncId → List V → Hp → Option (List Bool × List V × Hp)
def CT.cf (ct : CT) : CF := fun g a h => match ct g a h with
  | some (_, vals, h') => some (vals, h')
  | none => none
/-- The conditions under which a call is known. -/
def xconds (byref : Nat → Bool) (ct : CT) (g : FuncId) (args : List V) (hp : Hp) : List Bool :=
  let S := snapIds byref 0 args
  let p : Nat → Bool := fun i => S.contains i
  let args1 := if S.isEmpty then args else frzL hp p args
  let hp1 := if S.isEmpty then hp else frzH p hp
  let ids := reach hp1 (2 * hp.length + 40) (idsL args1) []
  match takeC ids hp1 with
  | none => []
  | some h0 => match ct g (renL (idx ids) args1) h0 with
    | some (cs, _, _) => cs
    | none => []
def CT.ok (E : Env) (ct : CT) : Prop := ∀ g a h cs vals h', ct g a h = some (cs, vals, h') → allT cs = true → call E g a h = some (vals, h')

abbrev Kn := List (Nat × Bool)
def lookK : Kn → Nat → Option Bool
  | [], _ => none
  | (k, b) :: r, t => if t = k then some b else lookK r t
def dropK : Kn → Nat → Kn
  | [], _ => []
  | (k, b) :: r, t => if t = k then dropK r t else (k, b) :: dropK r t
def knPut (kn : Kn) (d : Option Nat) (b : Option Bool) : Kn := match d with
  | none => kn
  | some t => match b with
    | some b => (t, b) :: dropK kn t
    | none => dropK kn t
def knOf (kn : Kn) : Operand → Option Bool
  | .tmp t => lookK kn t
  | .const (.bool b) => some b
  | _ => none
def knRes (kn : Kn) (o : Oper) : Option Bool := match o.op with
  | .move x => knOf kn x
  | .assign x => knOf kn x
  | .unOp .not _ x => match knOf kn x with
    | some b => some (!b)
    | none => none
  | _ => none
def setK : Nat → V → Fr → Fr
  | _, _, [] => []
  | t, v, (k, x) :: r => if t = k then (k, v) :: r else (k, x) :: setK t v r

/-- A choice by what a slot holds. -/
def withB (fr : Fr) (kn : Kn) (d : Nat) (κ : Bool → Fr → Kn → Tr) : Tr := match get fr d with
  | some (.c (.bool b)) => match lookK kn d with
    | some true => match b with | true => κ true fr kn | false => .fail
    | some false => match b with | false => κ false fr kn | true => .fail
    | none => .br b (κ true (setK d (.b true) fr) ((d, true) :: kn)) (κ false (setK d (.b false) fr) ((d, false) :: kn))
  | _ => .fail

def guardT (ops : List Oper) (fr : Fr) (kn : Kn) (o : Oper) (run skip : Fr → Kn → Tr) : Tr := match o.guard with
  | none => run fr kn
  | some (j, want) => match ops[j]? with
    | some q => match q.dst with
      | some d => match get fr d with
        | some .undef => skip fr kn
        | some (.c (.bool _)) => withB fr kn d fun t fr kn => match want, t with
          | true, true => run fr kn
          | false, false => run fr kn
          | _, _ => skip fr kn
        | _ => .fail
      | none => .fail
    | none => .fail

structure Par where
  E : Env
  sh : TypeId → Option (List Sk)
  ct : CT
  g : FuncId
  n : Nat
  m : Nat

section
variable (p : Par)

def opxT (fr : Fr) (hp : Hp) (o : Oper) : Option (V × Fr × Hp × Nat × List Bool) :=
  match o.op with
  | .call ⟨.value f, args, _⟩ => match opd fr f, opdL fr args.toList with
    | some (.fn h caps), some l => match xcall (p.E.byref h) p.ct.cf h (mapTL C.fix (p.E.fx h) (l ++ caps)) fr hp with
      | some (vals, fr', hp', k) => some (tupV vals, fr', hp', k, xconds (p.E.byref h) p.ct h (mapTL C.fix (p.E.fx h) (l ++ caps)) hp)
      | none => none
    | some (.yl i), some l => match hp[i]? with
      | some (.yo r s) => match soleYo hp i with
        | true => some (.b (yoAns r s), fr, hp.set i (.yo r.tail s), 4, [yoHd r l])
        | false => none
      | _ => none
    | _, _ => none
  | _ => match op1 p.sh p.E.T (p.E.own p.g) fr hp o with
    | some (v, hp', k, cs) => some (v, fr, hp', refk (topsO fr o) k, cs)
    | none => none

/-- A choice among operands. -/
def pickOf : Op → Option (Nat × Operand × Operand)
  | .pick (.tmp c) a b => some (c, a, b)
  | _ => none

def regT (id : Nat) (ops : List Oper) (draw : Bool) (κ : Fr → Hp → Kn → Tr) : List Oper → Fr → Hp → Kn → List Nat → Tr
  | [], fr, hp, kn, ks => match (!draw || drawOk (p.E.own p.g) ops ks.reverse) with
    | true => κ (maskO (p.E.live p.g id) fr) hp kn
    | false => .fail
  | o :: r, fr, hp, kn, ks => guardT ops fr kn o
    (fun fr kn => match pickOf o.op with
      | some (c, a, b) => withB fr kn c fun t fr kn => match t with
        | true => match opd fr a with
          | some v => match put p.n o.dst v fr with
            | some fr' => regT id ops draw κ r fr' hp (knPut kn o.dst (knOf kn a)) (0 :: ks)
            | none => .fail
          | none => .fail
        | false => match opd fr b with
          | some v => match put p.n o.dst v fr with
            | some fr' => regT id ops draw κ r fr' hp (knPut kn o.dst (knOf kn b)) (0 :: ks)
            | none => .fail
          | none => .fail
      | none => match opxT p fr hp o with
        | some (v, fr1, hp', k, cs) => match put p.n o.dst v fr1 with
          | some fr' => chks cs (regT id ops draw κ r fr' hp' (knPut kn o.dst (knRes kn o)) (k :: ks))
          | none => .fail
        | none => .fail)
    (fun fr kn => match put p.n o.dst .undef fr with
      | some fr' => regT id ops draw κ r fr' hp (knPut kn o.dst none) (0 :: ks)
      | none => .fail)

/-! ## code -/
inductive Kf where
  | seq (c : Code) (j : Nat)
  | blk (id : Nat)

/-- How many loops stand in this code, one within another not counted. -/
def nloops : Code → Nat
  | .seq a b => nloops a + nloops b
  | .cond _ a b => nloops a + nloops b
  | .block _ b => nloops b
  | .scope b => nloops b
  | .loop _ => 1
  | .rangeFunc _ _ _ _ => 1
  | _ => 0
/-- The loop j (the first one of this code is j0): its body, and what comes behind it. -/
def ctx : Code → Nat → Nat → List Kf → Option (Code × List Kf)
  | .seq a b, j0, j, k => if j < j0 + nloops a then ctx a j0 j (.seq b (j0 + nloops a) :: k) else ctx b (j0 + nloops a) j k
  | .cond _ a b, j0, j, k => if j < j0 + nloops a then ctx a j0 j k else ctx b (j0 + nloops a) j k
  | .block id b, j0, j, k => ctx b j0 j (.blk id :: k)
  | .scope b, j0, j, k => ctx b j0 j k
  | .loop b, _, _, k => some (b, k)
  | .rangeFunc f ps a b, _, _, k => some (.rangeFunc f ps a b, k)
  | _, _, _, _ => none

def texec : Code → Nat → Fr → Hp → Kn → (Ex → Fr → Hp → Kn → Tr) → Tr
  | .skip, _, fr, hp, kn, κ => κ .nrm fr hp kn
  | .label _, _, fr, hp, kn, κ => κ .nrm fr hp kn
  | .region id ops draw, _, fr, hp, kn, κ => regT p id ops.toList draw (κ .nrm) ops.toList fr hp kn []
  | .seq a b, j0, fr, hp, kn, κ => texec a j0 fr hp kn fun e fr hp kn => match e with
    | .nrm => texec b (j0 + nloops a) fr hp kn κ
    | e => κ e fr hp kn
  | .cond x a b, j0, fr, hp, kn, κ => match x with
    | .tmp c => withB fr kn c fun t fr kn => match t with
      | true => texec a j0 fr hp kn κ
      | false => texec b (j0 + nloops a) fr hp kn κ
    | .const (.bool t) => match t with
      | true => texec a j0 fr hp kn κ
      | false => texec b (j0 + nloops a) fr hp kn κ
    | _ => .fail
  | .block id b, j0, fr, hp, kn, κ => texec b j0 fr hp kn fun e fr hp kn => match decide (e = .exit id) with
    | true => κ .nrm fr hp kn
    | false => κ e fr hp kn
  | .loop b, j0, fr, hp, _, _ => match norm p.E p.g p.m b ⟨fr, hp⟩ with
    | some s => .lp j0 s.fr s.hp
    | none => .fail
  | .rangeFunc _ _ _ b, j0, fr, hp, _, _ => match norm p.E p.g p.m b ⟨fr, hp⟩ with
    | some s => .rg j0 s.fr s.hp
    | none => .fail
  | .scope b, j0, fr, hp, kn, κ => texec b j0 fr hp kn κ
  | .exit id, _, fr, hp, kn, κ => κ (.exit id) fr hp kn
  | .ret, _, fr, hp, kn, κ => κ .ret fr hp kn
  | _, _, _, _, _, _ => .fail

/-- How a piece of code ends: 'fin'. -/
def tplug (fin : Ex → St → Option R) : List Kf → Ex → Fr → Hp → Kn → Tr
  | [], e, fr, hp, _ => match fin e ⟨fr, hp⟩ with
    | some r => .leaf r
    | none => .fail
  | .seq c j :: k, e, fr, hp, kn => match e with
    | .nrm => texec p c j fr hp kn (tplug fin k)
    | e => tplug fin k e fr hp kn
  | .blk id :: k, e, fr, hp, kn => match decide (e = .exit id) with
    | true => tplug fin k .nrm fr hp kn
    | false => tplug fin k e fr hp kn

noncomputable def plug (fin : Ex → St → Option R) : List Kf → Ex → St → Option R
  | [], e, s => fin e s
  | .seq c _ :: k, e, s => match e with
    | .nrm => match execL p.E p.g p.n p.m c s with
      | some (e, s) => plug fin k e s
      | none => none
    | e => plug fin k e s
  | .blk id :: k, e, s => plug fin k (if e = .exit id then .nrm else e) s

/-- What a tree over the code U says. -/
noncomputable def Tr.den (fin : Ex → St → Option R) (U : Code) : Tr → Option R
  | .leaf r => some r
  | .br b x y => match b with
    | true => x.den fin U
    | false => y.den fin U
  | .chk b x => match b with
    | true => x.den fin U
    | false => none
  | .lp j fr hp => match ctx U 0 j [] with
    | some (b, k) => match loopL p.E p.g p.n p.m b ⟨fr, hp⟩ with
      | some (e, s) => plug p fin k e s
      | none => none
    | none => none
  | .rg j fr hp => match ctx U 0 j [] with
    | some (.rangeFunc f ps a b, k) => match rangeL p.E p.g p.n p.m f ps.toList a b ⟨fr, hp⟩ with
      | some (e, s) => plug p fin k e s
      | none => none
    | _ => none
  | .fail => none

/-- The tree of a piece of code, and behind its loop j. -/
def tree (fin : Ex → St → Option R) (U : Code) (fr : Fr) (hp : Hp) : Tr := texec p U 0 fr hp [] (tplug p fin [])
def treeK (fin : Ex → St → Option R) (U : Code) (j : Nat) (e : Ex) (fr : Fr) (hp : Hp) : Tr := match ctx U 0 j [] with
  | some (_, k) => tplug p fin k e fr hp []
  | none => .fail
end

/-! ## a tree says what the code does -/
section
variable {p : Par} {fin : Ex → St → Option R} {U : Code}

theorem den_chks {x : Tr} {r : R} : ∀ {cs : List Bool}, (chks cs x).den p fin U = some r → allT cs = true ∧ x.den p fin U = some r
  | [], h => ⟨rfl, h⟩
  | b :: cs, h => by
    simp only [chks, Tr.den] at h
    split at h
    · obtain ⟨h1, h2⟩ := den_chks h
      exact ⟨by simp [allT, h1], h2⟩
    · simp at h

theorem setK_same : ∀ {fr : Fr} {d : Nat} {v : V}, get fr d = some v → setK d v fr = fr
  | [], d, v, h => by simp [get] at h
  | (k, x) :: r, d, v, h => by
    simp only [get] at h
    simp only [setK]
    split
    · rename_i e
      rw [if_pos e] at h
      simp only [Option.some.injEq] at h
      rw [h]
    · rename_i e
      rw [if_neg e] at h
      rw [setK_same h]

theorem den_withB {fr : Fr} {kn : Kn} {d : Nat} {κ : Bool → Fr → Kn → Tr} {r : R} (h : (withB fr kn d κ).den p fin U = some r) : ∃ b kn', get fr d = some (.b b) ∧ (κ b fr kn').den p fin U = some r := by
  unfold withB at h
  split at h
  case h_2 => simp [Tr.den] at h
  rename_i b hb
  split at h
  · split at h
    · exact ⟨_, _, hb, h⟩
    · simp [Tr.den] at h
  · split at h
    · exact ⟨_, _, hb, h⟩
    · simp [Tr.den] at h
  · simp only [Tr.den] at h
    split at h
    · rw [setK_same hb] at h; exact ⟨_, _, hb, h⟩
    · rw [setK_same hb] at h; exact ⟨_, _, hb, h⟩

theorem den_guardT {ops : List Oper} {fr : Fr} {kn : Kn} {o : Oper} {run skip : Fr → Kn → Tr} {r : R} (h : (guardT ops fr kn o run skip).den p fin U = some r) :
    (wantedV ops fr o = some true ∧ ∃ kn', (run fr kn').den p fin U = some r) ∨ (wantedV ops fr o = some false ∧ ∃ kn', (skip fr kn').den p fin U = some r) := by
  unfold guardT at h
  unfold wantedV
  split at h
  · rename_i hg
    simp only [hg]
    exact .inl ⟨trivial, _, h⟩
  · rename_i j want hg
    simp only [hg]
    split at h
    case h_2 => simp [Tr.den] at h
    rename_i q hq
    simp only [hq]
    split at h
    case h_2 => simp [Tr.den] at h
    rename_i d hd
    simp only [hd]
    split at h
    · rename_i hu
      simp only [hu]
      exact .inr ⟨trivial, _, h⟩
    · rename_i b0 hb0
      obtain ⟨b, kn', hb, h⟩ := den_withB h
      simp only [hb]
      cases want <;> cases b <;> simp only at h
      · exact .inl ⟨rfl, _, h⟩
      · exact .inr ⟨rfl, _, h⟩
      · exact .inr ⟨rfl, _, h⟩
      · exact .inl ⟨rfl, _, h⟩
    · simp [Tr.den] at h

theorem ct_le {E : Env} {ct : CT} (hct : ct.ok E) {byref : Nat → Bool} {g : FuncId} {args : List V} {fr : Fr} {hp : Hp} {r : List V × Fr × Hp × Nat} (h : xcall byref ct.cf g args fr hp = some r) (hc : allT (xconds byref ct g args hp) = true) : xcall byref (call E) g args fr hp = some r := by
  unfold xcall at h ⊢
  unfold xconds at hc
  dsimp only at h hc ⊢
  generalize (if (snapIds byref 0 args).isEmpty = true then args else frzL hp (fun i => (snapIds byref 0 args).contains i) args) = args1 at h hc ⊢
  generalize (if (snapIds byref 0 args).isEmpty = true then hp else frzH (fun i => (snapIds byref 0 args).contains i) hp) = hp1 at h hc ⊢
  cases ht : takeC (reach hp1 (2 * hp.length + 40) (idsL args1) []) hp1 with
  | none => simp [ht] at h
  | some h0 =>
    simp only [ht] at h hc ⊢
    split at h
    case isFalse => simp at h
    rename_i hd
    unfold CT.cf at h
    cases hv : ct g (renL (idx (reach hp1 (2 * hp.length + 40) (idsL args1) [])) args1) h0 with
    | none => simp [hv] at h
    | some x =>
      obtain ⟨cs, vals, h1⟩ := x
      simp only [hv] at h hc
      simp only [hd, if_true, hct _ _ _ _ _ _ hv hc]
      exact h

theorem opxT_sound (hct : p.ct.ok p.E) {fr fr' : Fr} {hp hp' : Hp} {o : Oper} {v : V} {k : Nat} {cs : List Bool} (h : opxT p fr hp o = some (v, fr', hp', k, cs)) (hc : allT cs = true) : opx p.E (call p.E) p.g fr hp o = some (v, fr', hp', k) := by
  unfold opxT at h
  unfold opx
  split at h
  · rename_i f args ts ho
    split at h
    case h_3 => simp at h
    case h_2 =>
      rename_i i l h1 h2
      split at h
      case h_2 => simp at h
      rename_i r s hi
      split at h <;> simp only [Option.some.injEq, Prod.mk.injEq, reduceCtorEq] at h
      rename_i hs
      obtain ⟨rfl, rfl, rfl, rfl, rfl⟩ := h
      simp only [allT, Bool.and_true] at hc
      simp only [ho, h1, h2, hi, hs, hc, and_self, if_true]
    rename_i gf caps l h1 h2
    split at h <;> simp only [Option.some.injEq, Prod.mk.injEq, reduceCtorEq] at h
    rename_i vals fr1 hp1 k1 hx
    obtain ⟨rfl, rfl, rfl, rfl, rfl⟩ := h
    simp only [ho, h1, h2, ct_le hct hx hc]
  · rename_i hne
    split
    · rename_i f args ts ho; exact absurd ho (hne _ _ _)
    · split at h <;> simp only [Option.some.injEq, Prod.mk.injEq, reduceCtorEq] at h
      rename_i v1 hp1 k1 cs1 h1
      obtain ⟨rfl, rfl, rfl, rfl, rfl⟩ := h
      simp only [op1_sound h1 hc]

theorem pickOf_op {o : Op} {c : Nat} {a b : Operand} (h : pickOf o = some (c, a, b)) : o = .pick (.tmp c) a b := by
  unfold pickOf at h
  split at h <;> simp only [Option.some.injEq, Prod.mk.injEq, reduceCtorEq] at h
  obtain ⟨rfl, rfl, rfl⟩ := h
  rfl

theorem den_regT (hct : p.ct.ok p.E) {id : Nat} {ops : List Oper} {draw : Bool} {κ : Fr → Hp → Kn → Tr} {r : R} : ∀ {l : List Oper} {fr : Fr} {hp : Hp} {kn : Kn} {ks : List Nat}, (regT p id ops draw κ l fr hp kn ks).den p fin U = some r →
    ∃ fr' hp' ks' kn', runOps p.E (call p.E) p.g p.n ops l fr hp = some (fr', hp', ks') ∧ (draw = false ∨ drawOk (p.E.own p.g) ops (ks.reverse ++ ks') = true) ∧ (κ (maskO (p.E.live p.g id) fr') hp' kn').den p fin U = some r
  | [], fr, hp, kn, ks, h => by
    simp only [regT] at h
    split at h
    · rename_i hd
      refine ⟨fr, hp, [], kn, rfl, ?_, h⟩
      simpa using hd
    · simp [Tr.den] at h
  | o :: l, fr, hp, kn, ks, h => by
    simp only [regT] at h
    simp only [runOps]
    have fin' : ∀ {fr1 hp1 k fr' hp' ks'}, runOps p.E (call p.E) p.g p.n ops l fr1 hp1 = some (fr', hp', ks') → (draw = false ∨ drawOk (p.E.own p.g) ops ((k :: ks).reverse ++ ks') = true) → (draw = false ∨ drawOk (p.E.own p.g) ops (ks.reverse ++ (k :: ks')) = true) := by
      intro fr1 hp1 k fr' hp' ks' _ h
      simpa using h
    rcases den_guardT h with ⟨hw, kn', h⟩ | ⟨hw, kn', h⟩
    · simp only [hw]
      split at h
      · rename_i c a b hp'
        have ho := pickOf_op hp'
        obtain ⟨t, kn2, ht, h⟩ := den_withB h
        have hx : ∀ {v}, opd fr (if t then a else b) = some v → opx p.E (call p.E) p.g fr hp o = some (v, fr, hp, 0) := by
          intro v hv
          unfold opx
          split
          · rename_i f args ts hc; rw [ho] at hc; cases hc
          · simp only [op0, ho]
            have : opd fr (.tmp c) = some (.c (.bool t)) := ht
            simp only [this]
            have hz : ∀ l : List Nat, refk l 0 = 0 := fun l => by unfold refk; split <;> simp
            cases t <;> simp at hv <;> simp [pureR, hv, hz]
        cases t with
        | true =>
          simp only at h
          split at h
          case h_2 => simp [Tr.den] at h
          rename_i v hv
          split at h
          case h_2 => simp [Tr.den] at h
          rename_i fr2 hput
          obtain ⟨f1, p1, k1, n1, q1, q2, q3⟩ := den_regT hct h
          exact ⟨f1, p1, 0 :: k1, n1, by simp only [hx (by simpa using hv), hput, q1], fin' q1 q2, q3⟩
        | false =>
          simp only at h
          split at h
          case h_2 => simp [Tr.den] at h
          rename_i v hv
          split at h
          case h_2 => simp [Tr.den] at h
          rename_i fr2 hput
          obtain ⟨f1, p1, k1, n1, q1, q2, q3⟩ := den_regT hct h
          exact ⟨f1, p1, 0 :: k1, n1, by simp only [hx (by simpa using hv), hput, q1], fin' q1 q2, q3⟩
      · split at h
        case h_2 => simp [Tr.den] at h
        rename_i v fr1 hp1 k cs hop
        split at h
        case h_2 => simp [Tr.den] at h
        rename_i fr2 hput
        obtain ⟨hc, h⟩ := den_chks h
        obtain ⟨f1, p1, k1, n1, q1, q2, q3⟩ := den_regT hct h
        exact ⟨f1, p1, k :: k1, n1, by simp only [opxT_sound hct hop hc, hput, q1], fin' q1 q2, q3⟩
    · simp only [hw]
      split at h
      case h_2 => simp [Tr.den] at h
      rename_i fr2 hput
      obtain ⟨f1, p1, k1, n1, q1, q2, q3⟩ := den_regT hct h
      exact ⟨f1, p1, 0 :: k1, n1, by simp only [hput, q1], fin' q1 q2, q3⟩

/-- The loops of this piece of code are loops of U, with this behind them. -/
def At (U c : Code) (j0 : Nat) (k : List Kf) : Prop := ∀ j, j0 ≤ j → j < j0 + nloops c → ctx U 0 j [] = ctx c j0 j k
def AtK (U : Code) : List Kf → Prop
  | [] => True
  | .seq c j :: k => At U c j k ∧ AtK U k
  | .blk _ :: k => AtK U k

theorem den_texec (hct : p.ct.ok p.E) {r : R} : ∀ (c : Code) (j0 : Nat) (k : List Kf) {fr : Fr} {hp : Hp} {kn : Kn} {κ : Ex → Fr → Hp → Kn → Tr}, At U c j0 k →
    (∀ e fr hp kn, (κ e fr hp kn).den p fin U = some r → plug p fin k e ⟨fr, hp⟩ = some r) → (texec p c j0 fr hp kn κ).den p fin U = some r →
    ∃ e s, execL p.E p.g p.n p.m c ⟨fr, hp⟩ = some (e, s) ∧ plug p fin k e s = some r := by
  intro c
  induction c with
  | skip => intro j0 k fr hp kn κ ha hκ h; exact ⟨_, _, execL_skip, hκ _ _ _ _ h⟩
  | label l => intro j0 k fr hp kn κ ha hκ h; exact ⟨_, _, execL_label, hκ _ _ _ _ h⟩
  | exit i => intro j0 k fr hp kn κ ha hκ h; exact ⟨_, _, execL_exit, hκ _ _ _ _ h⟩
  | ret => intro j0 k fr hp kn κ ha hκ h; exact ⟨_, _, execL_ret, hκ _ _ _ _ h⟩
  | region id ops draw =>
    intro j0 k fr hp kn κ ha hκ h
    obtain ⟨fr', hp', ks', kn', h1, h2, h3⟩ := den_regT hct h
    refine ⟨.nrm, ⟨maskO (p.E.live p.g id) fr', hp'⟩, execL_region ?_, hκ _ _ _ _ h3⟩
    unfold region
    simp only [h1]
    exact if_pos (by simpa using h2)
  | seq a b iha ihb =>
    intro j0 k fr hp kn κ ha hκ h
    have ha1 : At U a j0 (.seq b (j0 + nloops a) :: k) := fun j h1 h2 => by
      rw [ha j h1 (by simp only [nloops]; omega)]
      simp only [ctx, if_pos h2]
    have ha2 : At U b (j0 + nloops a) k := fun j h1 h2 => by
      rw [ha j (by omega) (by simp only [nloops]; omega)]
      simp only [ctx]
      rw [if_neg (by omega)]
    obtain ⟨e, s, h1, h2⟩ := iha j0 (.seq b (j0 + nloops a) :: k) ha1 (fun e fr hp kn hk => by
      simp only [plug]
      cases e with
      | nrm =>
        obtain ⟨e2, s2, q1, q2⟩ := ihb (j0 + nloops a) k ha2 hκ hk
        simp only [q1, q2]
      | exit i => exact hκ _ _ _ _ hk
      | ret => exact hκ _ _ _ _ hk) h
    cases e with
    | nrm =>
      simp only [plug] at h2
      split at h2
      · rename_i e2 s2 q1
        exact ⟨e2, s2, execL_seq h1 q1, h2⟩
      · simp at h2
    | exit i => exact ⟨_, _, execL_seq_out h1 (by simp), h2⟩
    | ret => exact ⟨_, _, execL_seq_out h1 (by simp), h2⟩
  | cond x a b iha ihb =>
    intro j0 k fr hp kn κ ha hκ h
    have ha1 : At U a j0 k := fun j h1 h2 => by
      rw [ha j h1 (by simp only [nloops]; omega)]
      simp only [ctx, if_pos h2]
    have ha2 : At U b (j0 + nloops a) k := fun j h1 h2 => by
      rw [ha j (by omega) (by simp only [nloops]; omega)]
      simp only [ctx]
      rw [if_neg (by omega)]
    simp only [texec] at h
    split at h
    · rename_i c
      obtain ⟨t, kn', ht, h⟩ := den_withB h
      cases t with
      | true =>
        obtain ⟨e, s, q1, q2⟩ := iha j0 k ha1 hκ h
        exact ⟨e, s, execL_cond (t := true) ht (by simpa using q1), q2⟩
      | false =>
        obtain ⟨e, s, q1, q2⟩ := ihb _ k ha2 hκ h
        exact ⟨e, s, execL_cond (t := false) ht (by simpa using q1), q2⟩
    · rename_i t
      cases t with
      | true =>
        obtain ⟨e, s, q1, q2⟩ := iha j0 k ha1 hκ h
        exact ⟨e, s, execL_cond (t := true) rfl (by simpa using q1), q2⟩
      | false =>
        obtain ⟨e, s, q1, q2⟩ := ihb _ k ha2 hκ h
        exact ⟨e, s, execL_cond (t := false) rfl (by simpa using q1), q2⟩
    · simp [Tr.den] at h
  | block id b ih =>
    intro j0 k fr hp kn κ ha hκ h
    obtain ⟨e, s, h1, h2⟩ := ih j0 (.blk id :: k) (fun j h1 h2 => by rw [ha j h1 h2]; rfl) (fun e fr hp kn hk => by
      simp only [plug]
      split at hk
      · rename_i he
        rw [if_pos (of_decide_eq_true he)]
        exact hκ _ _ _ _ hk
      · rename_i he
        rw [if_neg (of_decide_eq_false he)]
        exact hκ _ _ _ _ hk) h
    exact ⟨_, _, execL_block h1, h2⟩
  | loop b ih =>
    intro j0 k fr hp kn κ ha hκ h
    simp only [texec] at h
    split at h
    case h_2 => simp [Tr.den] at h
    rename_i s hn
    simp only [Tr.den] at h
    rw [ha j0 (Nat.le_refl _) (by simp [nloops])] at h
    simp only [ctx] at h
    split at h
    · rename_i e s1 hl
      exact ⟨e, s1, execL_loop hn hl, h⟩
    · simp at h
  | scope b ih =>
    intro j0 k fr hp kn κ ha hκ h
    obtain ⟨e, s, h1, h2⟩ := ih j0 k (fun j h1 h2 => by rw [ha j h1 h2]; rfl) hκ h
    exact ⟨e, s, execL_scope h1, h2⟩
  | rangeFunc f ps a b iha ihb =>
    intro j0 k fr hp kn κ ha hκ h
    simp only [texec] at h
    split at h
    case h_2 => simp [Tr.den] at h
    rename_i s hn
    simp only [Tr.den] at h
    rw [ha j0 (Nat.le_refl _) (by simp [nloops])] at h
    simp only [ctx] at h
    split at h
    · rename_i e s1 hl
      exact ⟨e, s1, execL_range hn hl, h⟩
    · simp at h
  | goto => intro j0 k fr hp kn κ ha hκ h; simp [texec, Tr.den] at h
  | refuse => intro j0 k fr hp kn κ ha hκ h; simp [texec, Tr.den] at h

theorem den_tplug (hct : p.ct.ok p.E) {r : R} : ∀ {k : List Kf} {e : Ex} {fr : Fr} {hp : Hp} {kn : Kn}, AtK U k → (tplug p fin k e fr hp kn).den p fin U = some r → plug p fin k e ⟨fr, hp⟩ = some r
  | [], e, fr, hp, kn, _, h => by
    simp only [tplug] at h
    split at h
    · rename_i r' hr
      simp only [Tr.den] at h
      simp only [plug, hr, h]
    · simp [Tr.den] at h
  | .seq c j :: k, e, fr, hp, kn, ha, h => by
    cases e with
    | nrm =>
      simp only [tplug] at h
      obtain ⟨e, s, h1, h2⟩ := den_texec hct c j k ha.1 (fun e fr hp kn hk => den_tplug hct ha.2 hk) h
      simp only [plug, h1, h2]
    | exit i => simp only [tplug] at h; simp only [plug]; exact den_tplug hct ha.2 h
    | ret => simp only [tplug] at h; simp only [plug]; exact den_tplug hct ha.2 h
  | .blk id :: k, e, fr, hp, kn, ha, h => by
    simp only [tplug] at h
    simp only [plug]
    split at h
    · rename_i he
      rw [if_pos (of_decide_eq_true he)]
      exact den_tplug hct (show AtK U k from ha) h
    · rename_i he
      rw [if_neg (of_decide_eq_false he)]
      exact den_tplug hct (show AtK U k from ha) h

theorem ctx_at : ∀ (c : Code) (j0 : Nat) {j : Nat} {k k' : List Kf} {b : Code}, At U c j0 k → AtK U k → j0 ≤ j → j < j0 + nloops c → ctx c j0 j k = some (b, k') → AtK U k' := by
  intro c
  induction c with
  | seq a b iha ihb =>
    intro j0 j k k' b' ha hk h1 h2 h
    have ha1 : At U a j0 (.seq b (j0 + nloops a) :: k) := fun j h1 h2 => by
      rw [ha j h1 (by simp only [nloops]; omega)]
      simp only [ctx, if_pos h2]
    have ha2 : At U b (j0 + nloops a) k := fun j h1 h2 => by
      rw [ha j (by omega) (by simp only [nloops]; omega)]
      simp only [ctx]
      rw [if_neg (by omega)]
    simp only [ctx] at h
    simp only [nloops] at h2
    split at h
    · exact iha j0 ha1 ⟨ha2, hk⟩ h1 (by assumption) h
    · exact ihb _ ha2 hk (by omega) (by omega) h
  | cond x a b iha ihb =>
    intro j0 j k k' b' ha hk h1 h2 h
    have ha1 : At U a j0 k := fun j h1 h2 => by
      rw [ha j h1 (by simp only [nloops]; omega)]
      simp only [ctx, if_pos h2]
    have ha2 : At U b (j0 + nloops a) k := fun j h1 h2 => by
      rw [ha j (by omega) (by simp only [nloops]; omega)]
      simp only [ctx]
      rw [if_neg (by omega)]
    simp only [ctx] at h
    simp only [nloops] at h2
    split at h
    · exact iha j0 ha1 hk h1 (by assumption) h
    · exact ihb _ ha2 hk (by omega) (by omega) h
  | block id b ih =>
    intro j0 j k k' b' ha hk h1 h2 h
    exact ih j0 (k := .blk id :: k) (fun j h1 h2 => by rw [ha j h1 h2]; rfl) hk h1 h2 h
  | scope b ih =>
    intro j0 j k k' b' ha hk h1 h2 h
    exact ih j0 (k := k) (fun j h1 h2 => by rw [ha j h1 h2]; rfl) hk h1 h2 h
  | loop b ih =>
    intro j0 j k k' b' ha hk h1 h2 h
    simp only [ctx, Option.some.injEq, Prod.mk.injEq] at h
    rw [← h.2]; exact hk
  | rangeFunc f ps a b iha ihb =>
    intro j0 j k k' b' ha hk h1 h2 h
    simp only [ctx, Option.some.injEq, Prod.mk.injEq] at h
    rw [← h.2]; exact hk
  | _ => intro j0 j k k' b' ha hk h1 h2 h; simp [ctx] at h

/-- A piece of code does what its tree says. -/
theorem tree_sound (hct : p.ct.ok p.E) {fr : Fr} {hp : Hp} {r : R} (h : (tree p fin U fr hp).den p fin U = some r) : ∃ e s, execL p.E p.g p.n p.m U ⟨fr, hp⟩ = some (e, s) ∧ fin e s = some r := by
  obtain ⟨e, s, h1, h2⟩ := den_texec hct U 0 [] (fun j _ _ => rfl) (fun e fr hp kn hk => den_tplug (U := U) hct trivial hk) h
  exact ⟨e, s, h1, h2⟩

/-- Behind a loop. -/
theorem den_lp (hct : p.ct.ok p.E) {j : Nat} {b : Code} {k : List Kf} (hj : ctx U 0 j [] = some (b, k)) (hlt : j < nloops U) {fr fr' : Fr} {hp hp' : Hp} {e : Ex} {r : R} (hl : loopL p.E p.g p.n p.m b ⟨fr, hp⟩ = some (e, ⟨fr', hp'⟩))
    (h : (treeK p fin U j e fr' hp').den p fin U = some r) : (Tr.lp j fr hp).den p fin U = some r := by
  simp only [Tr.den, hj, hl]
  unfold treeK at h
  simp only [hj] at h
  exact den_tplug hct (ctx_at U 0 (fun j _ _ => rfl) trivial (Nat.zero_le _) (by omega) hj) h
theorem den_rg (hct : p.ct.ok p.E) {j : Nat} {f : Operand} {ps : Array Nat} {a b : Code} {k : List Kf} (hj : ctx U 0 j [] = some (.rangeFunc f ps a b, k)) (hlt : j < nloops U) {fr fr' : Fr} {hp hp' : Hp} {e : Ex} {r : R} (hl : rangeL p.E p.g p.n p.m f ps.toList a b ⟨fr, hp⟩ = some (e, ⟨fr', hp'⟩))
    (h : (treeK p fin U j e fr' hp').den p fin U = some r) : (Tr.rg j fr hp).den p fin U = some r := by
  simp only [Tr.den, hj, hl]
  unfold treeK at h
  simp only [hj] at h
  exact den_tplug hct (ctx_at U 0 (fun j _ _ => rfl) trivial (Nat.zero_le _) (by omega) hj) h
end

/-! ## functions, loops -/
def finF (E : Env) (g : FuncId) (m : Nat) (res : List ResultVar) (e : Ex) (s : St) : Option R := match e with
  | .exit _ => none
  | _ => match resW E g s res with
    | some vals => match leave (E.frz g) m vals s.hp with
      | some (vals, hp) => some (.out vals hp)
      | none => none
    | none => none
def finL (E : Env) (g : FuncId) (m : Nat) (b : Code) (e : Ex) (s : St) : Option R := match e with
  | .nrm => match norm E g m b s with
    | some s => some (.st .nrm s.fr s.hp)
    | none => none
  | e => some (.st e s.fr s.hp)

/-- A function does what its tree says. -/
theorem call_tree {p : Par} (hct : p.ct.ok p.E) {fn : Func} {code : Code} {args vals : List V} {hp hp' : Hp} (hx : p.E.ext p.g = none) (hB : p.E.B p.g = some fn) (hc : fn.body = some code) (hs : nilArg (p.E.split p.g) args = none)
    (hn : p.n = args.length + (fn.ntmps - args.length)) (hm : p.m = hp.length)
    (h : (tree p (finF p.E p.g p.m fn.results.toList) code (frame0 0 args) hp).den p (finF p.E p.g p.m fn.results.toList) code = some (.out vals hp')) : call p.E p.g args hp = some (vals, hp') := by
  obtain ⟨e, s, h1, h2⟩ := tree_sound hct h
  unfold finF at h2
  split at h2
  · simp at h2
  · rename_i hne
    split at h2
    case h_2 => simp at h2
    rename_i vals0 hv
    split at h2 <;> simp only [Option.some.injEq, R.out.injEq, reduceCtorEq] at h2
    rename_i vals1 hp1 hl
    obtain ⟨rfl, rfl⟩ := h2
    rw [hn, hm] at h1
    rw [hm] at hl
    refine call_fun hx hB hc hs h1 ?_ hv hl
    cases e with
    | nrm => exact .inl rfl
    | ret => exact .inr rfl
    | exit i => exact absurd rfl (hne i)

/-- A loop, by an index that says where it stands. -/
theorem loop_ind {p : Par} (hct : p.ct.ok p.E) {b : Code} {ι : Type} (S : ι → Fr × Hp) (Pre : ι → Prop) (μ : ι → Nat) (F : ι → R)
    (step : ∀ i, Pre i → (∃ i', Pre i' ∧ μ i' < μ i ∧ F i' = F i ∧ (tree p (finL p.E p.g p.m b) b (S i).1 (S i).2).den p (finL p.E p.g p.m b) b = some (.st .nrm (S i').1 (S i').2)) ∨
      (∃ e fr hp, e ≠ .nrm ∧ F i = .st e fr hp ∧ (tree p (finL p.E p.g p.m b) b (S i).1 (S i).2).den p (finL p.E p.g p.m b) b = some (.st e fr hp))) :
    ∀ i, Pre i → ∃ e fr hp, F i = .st e fr hp ∧ loopL p.E p.g p.n p.m b ⟨(S i).1, (S i).2⟩ = some (e, ⟨fr, hp⟩) := by
  have main : ∀ (N : Nat) (i : ι), μ i < N → Pre i → ∃ e fr hp, F i = .st e fr hp ∧ loopL p.E p.g p.n p.m b ⟨(S i).1, (S i).2⟩ = some (e, ⟨fr, hp⟩) := by
    intro N
    induction N with
    | zero => intro i h; omega
    | succ N ih =>
      intro i hi hpre
      rcases step i hpre with ⟨i', h1, h2, h3, h4⟩ | ⟨e, fr, hp, h1, h2, h3⟩
      · obtain ⟨e, s, q1, q2⟩ := tree_sound hct h4
        obtain ⟨e', fr, hp, k1, k2⟩ := ih i' (by omega) h1
        refine ⟨e', fr, hp, h3.symm.trans k1, ?_⟩
        cases e with
        | nrm =>
          simp only [finL] at q2
          split at q2 <;> simp only [Option.some.injEq, R.st.injEq, reduceCtorEq] at q2
          rename_i s' hn
          refine loopL_step q1 hn ?_
          rw [← q2.2.1, ← q2.2.2] at k2
          exact k2
        | exit j => simp [finL] at q2
        | ret => simp [finL] at q2
      · obtain ⟨e', s, q1, q2⟩ := tree_sound hct h3
        refine ⟨e, fr, hp, h2, ?_⟩
        cases e' with
        | nrm =>
          simp only [finL] at q2
          split at q2 <;> simp only [Option.some.injEq, R.st.injEq, reduceCtorEq] at q2
          exact absurd q2.1.symm h1
        | exit j =>
          simp only [finL, Option.some.injEq, R.st.injEq] at q2
          obtain ⟨rfl, rfl, rfl⟩ := q2
          exact loopL_out q1 (by simp)
        | ret =>
          simp only [finL, Option.some.injEq, R.st.injEq] at q2
          obtain ⟨rfl, rfl, rfl⟩ := q2
          exact loopL_out q1 (by simp)
  exact fun i h => main (μ i + 1) i (Nat.lt_succ_self _) h

/-! ## rounds -/
/-- Goes through to its end, or not at all. -/
def calm : Code → Bool
  | .skip | .label _ | .region _ _ _ => true
  | .seq a b => calm a && calm b
  | .cond _ a b => calm a && calm b
  | .scope a => calm a
  | _ => false
theorem calm_nrm {rg : Nat → List Oper → Bool → St → Option St} {lp : Nat → Code → (St → Option (Ex × St)) → St → Option (Ex × St)} {rf : Nat → Operand → List Nat → Code → (Nat → St → Option (Ex × St)) → St → Option (Ex × St)} : ∀ {c : Code} {m : Nat} {s s' : St} {e : Ex}, calm c = true → exec rg lp rf c m s = some (e, s') → e = .nrm := by
  intro c
  induction c with
  | skip => intro m s s' e _ h; simp only [exec, Option.some.injEq, Prod.mk.injEq] at h; exact h.1.symm
  | label => intro m s s' e _ h; simp only [exec, Option.some.injEq, Prod.mk.injEq] at h; exact h.1.symm
  | region id ops draw =>
    intro m s s' e _ h
    simp only [exec] at h
    split at h <;> simp only [Option.some.injEq, Prod.mk.injEq, reduceCtorEq] at h
    exact h.1.symm
  | seq a b iha ihb =>
    intro m s s' e hc h
    simp only [calm, Bool.and_eq_true] at hc
    simp only [exec] at h
    split at h
    · exact ihb hc.2 h
    · exact iha hc.1 h
  | cond x a b iha ihb =>
    intro m s s' e hc h
    simp only [calm, Bool.and_eq_true] at hc
    simp only [exec] at h
    split at h
    · split at h
      · exact iha hc.1 h
      · exact ihb hc.2 h
    · simp at h
  | scope a ih =>
    intro m s s' e hc h
    exact ih hc h
  | _ => intro m s s' e hc h; simp [calm] at hc

def rgPs : Code → List Nat
  | .rangeFunc _ ps _ _ => ps.toList
  | _ => []
def rgAsn : Code → Code
  | .rangeFunc _ _ a _ => a
  | _ => .goto 0
def rgBody : Code → Code
  | .rangeFunc _ _ _ b => b
  | c => c
def rgFn : Code → Operand
  | .rangeFunc f _ _ _ => f
  | _ => .tmp 0
def isRg : Code → Bool
  | .rangeFunc _ _ a _ => calm a
  | _ => false
/-- A round, from the state at its head. -/
def finR (E : Env) (g : FuncId) (m : Nat) (b : Code) (fr0 : Fr) (e : Ex) (s : St) : Option R := match e with
  | .nrm => match norm E g m b ⟨fr0, s.hp⟩ with
    | some s => some (.st .nrm s.fr s.hp)
    | none => none
  | e => some (.st e fr0 s.hp)
def Par.deep (p : Par) (m : Nat) : Par := { p with m := m }
def Par.rt (p : Par) (c : Code) (e : List V) (fr : Fr) (hp : Hp) : Tr := match closedL e, putL p.n (rgPs c) e fr with
  | true, some fr' => tree (p.deep hp.length) (finR p.E p.g p.m (rgBody c) fr) (.seq (rgAsn c) (rgBody c)) fr' hp
  | _, _ => .fail
noncomputable def Par.rd (p : Par) (c : Code) (fr : Fr) (hp : Hp) (t : Tr) : Option R := t.den (p.deep hp.length) (finR p.E p.g p.m (rgBody c) fr) (.seq (rgAsn c) (rgBody c))
def Par.rk (p : Par) (c : Code) (fr0 : Fr) (hp0 : Hp) (j : Nat) (e : Ex) (fr : Fr) (hp : Hp) : Tr := treeK (p.deep hp0.length) (finR p.E p.g p.m (rgBody c) fr0) (.seq (rgAsn c) (rgBody c)) j e fr hp

/-- The rounds, one after the other. -/
def rounds1 (p : Par) (c : Code) (e : List V) (fr : Fr) (hp : Hp) (r : R) : Prop := closedL e = true ∧ ∃ fr', putL p.n (rgPs c) e fr = some fr' ∧ ∃ ex s1, rdL p.E p.g p.n (rgAsn c) (rgBody c) hp.length ⟨fr', hp⟩ = some (ex, s1) ∧ finR p.E p.g p.m (rgBody c) fr ex s1 = some r
theorem round_sound {p : Par} (hct : p.ct.ok p.E) {c : Code} (hc : isRg c = true) {e : List V} {fr : Fr} {hp : Hp} {r : R} (h : p.rd c fr hp (p.rt c e fr hp) = some r) : rounds1 p c e fr hp r := by
  unfold Par.rd Par.rt at h
  split at h
  case h_2 => simp [Tr.den] at h
  rename_i fr' hcl hput
  obtain ⟨ex, s, h1, h2⟩ := tree_sound (p := p.deep hp.length) hct h
  refine ⟨hcl, fr', hput, ex, s, ?_, h2⟩
  cases c with
  | rangeFunc f ps a b =>
    obtain ⟨k, hk⟩ := execL_iff.1 h1
    refine rdL_iff.2 ⟨k, ?_⟩
    simp only [isRg] at hc
    unfold execN execF at hk
    simp only [exec] at hk
    unfold rdN
    split at hk
    · rename_i s1 hs1
      have : execN p.E p.g p.n hp.length k a ⟨fr', hp⟩ = some (.nrm, s1) := hs1
      simp only [rgAsn, rgBody, this]
      exact hk
    · rename_i hne
      have := calm_nrm hc hk
      subst this
      exact absurd hk (hne _)
  | _ => simp [isRg] at hc

/-- A loop over an iterator, element by element: 'S s': where it stands; 'F l s': how it ends with l left. -/
theorem rounds_list {p : Par} (hct : p.ct.ok p.E) {c : Code} (hc : isRg c = true) {α σ : Type} (enc : α → List V) (S : σ → Fr × Hp) (Inv : List α → σ → Prop) (F : List α → σ → Ex × Fr × Hp)
    (step : ∀ x l s, Inv (x :: l) s → (∃ s', Inv l s' ∧ F (x :: l) s = F l s' ∧ p.rd c (S s).1 (S s).2 (p.rt c (enc x) (S s).1 (S s).2) = some (.st .nrm (S s').1 (S s').2)) ∨
      ((F (x :: l) s).1 ≠ .nrm ∧ p.rd c (S s).1 (S s).2 (p.rt c (enc x) (S s).1 (S s).2) = some (.st (F (x :: l) s).1 (F (x :: l) s).2.1 (F (x :: l) s).2.2)))
    (done : ∀ s, Inv [] s → F [] s = (.nrm, S s)) : ∀ (l : List α) (s : σ), Inv l s → ∃ u t, roundsE p.n (rgPs c) (norm p.E p.g p.m (rgBody c)) (rdL p.E p.g p.n (rgAsn c) (rgBody c)) (l.map enc) ⟨(S s).1, (S s).2⟩ = some ((F l s).1, ⟨(F l s).2.1, (F l s).2.2⟩, u, t)
  | [], s, hi => ⟨[], false, by rw [done s hi]; rfl⟩
  | x :: l, s, hi => by
    rcases step x l s hi with ⟨s', h1, h2, h3⟩ | ⟨h2, h3⟩
    · obtain ⟨u, t, ih⟩ := rounds_list hct hc enc S Inv F step done l s' h1
      obtain ⟨g1, fr', g2, ex, s1, g3, g4⟩ := round_sound hct hc h3
      refine ⟨enc x :: u, t, ?_⟩
      cases ex with
      | nrm =>
        simp only [finR] at g4
        split at g4 <;> simp only [Option.some.injEq, R.st.injEq, reduceCtorEq, true_and] at g4
        rename_i s2 hn
        simp only [List.map_cons, roundsE, g1, g2, g3, hn]
        have : s2 = ⟨(S s').1, (S s').2⟩ := by cases s2; simp_all
        rw [this, ih, h2]
      | exit i => simp [finR] at g4
      | ret => simp [finR] at g4
    · obtain ⟨g1, fr', g2, ex, s1, g3, g4⟩ := round_sound hct hc h3
      refine ⟨[enc x], true, ?_⟩
      cases ex with
      | nrm =>
        simp only [finR] at g4
        split at g4 <;> simp only [Option.some.injEq, R.st.injEq, reduceCtorEq] at g4
        exact absurd g4.1.symm h2
      | exit i =>
        simp only [finR, Option.some.injEq, R.st.injEq] at g4
        simp only [List.map_cons, roundsE, g1, g2, g3]
        rw [← g4.1, ← g4.2.1, ← g4.2.2]
      | ret =>
        simp only [finR, Option.some.injEq, R.st.injEq] at g4
        simp only [List.map_cons, roundsE, g1, g2, g3]
        rw [← g4.1, ← g4.2.1, ← g4.2.2]

/-! ## names -/
def codeOf (E : Env) (g : FuncId) : Code := match E.B g with
  | some fn => match fn.body with
    | some c => c
    | none => .skip
  | none => .skip
def resOf (E : Env) (g : FuncId) : List ResultVar := match E.B g with
  | some fn => fn.results.toList
  | none => []
def tmpsOf (E : Env) (g : FuncId) : Nat := match E.B g with
  | some fn => fn.ntmps
  | none => 0
def loopAt (U : Code) (j : Nat) : Code := match ctx U 0 j [] with
  | some (b, _) => b
  | none => .skip
/-- Function g at so many arguments, over so many objects. -/
def par (E : Env) (sh : TypeId → Option (List Sk)) (ct : CT) (g : FuncId) (na m : Nat) : Par := ⟨E, sh, ct, g, na + (tmpsOf E g - na), m⟩
def Par.fin (p : Par) : Ex → St → Option R := finF p.E p.g p.m (resOf p.E p.g)
def Par.finL (p : Par) (b : Code) : Ex → St → Option R := Ev.finL p.E p.g p.m b
/-- The tree of function g; behind its loop j; the tree of a loop's body, and behind a loop in it. -/
def Par.ft (p : Par) (args : List V) (hp : Hp) : Tr := tree p p.fin (codeOf p.E p.g) (frame0 0 args) hp
def Par.fk (p : Par) (j : Nat) (e : Ex) (fr : Fr) (hp : Hp) : Tr := treeK p p.fin (codeOf p.E p.g) j e fr hp
def Par.lt (p : Par) (b : Code) (fr : Fr) (hp : Hp) : Tr := tree p (p.finL b) b fr hp
def Par.lk (p : Par) (b : Code) (j : Nat) (e : Ex) (fr : Fr) (hp : Hp) : Tr := treeK p (p.finL b) b j e fr hp
end Go.Ev
