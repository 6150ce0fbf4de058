/-
  Radix trees: nodes as cells; when they are right; what they have; what a path has. Plain Lean.
-/
import Derived.Test.YtbilmkcdhodenaaDoorAD
set_option linter.all false
set_option linter.unusedSimpArgs false
set_option linter.unusedVariables false
section
namespace Go.Proofs.YtbilmkcdhodenaaDoor
open Go Go.Ev

/-- A node: its label, its rows, its kids. -/
inductive Nd where
  | node (lab : List UInt8) (rows : List Row) (kids : List Nd)
instance : Inhabited Nd := ⟨.node [] [] []⟩
def Nd.lab : Nd → List UInt8 | .node l _ _ => l
def Nd.rows : Nd → List Row | .node _ x _ => x
def Nd.kids : Nd → List Nd | .node _ _ x => x
theorem Nd.eta (t : Nd) : Nd.node t.lab t.rows t.kids = t := by cases t; rfl
mutual
def Nd.enc : Nd → List C
  | .node lab rs kids => [.str lab, .sl 5 none false (Go.Proofs.YtbilmkcdhodenaaDoor.rows rs), .sl 3 none false (encL kids)]
def encL : List Nd → List (List C)
  | [] => []
  | t :: r => t.enc :: encL r
end
theorem Nd.enc_eq (t : Nd) : t.enc = [.str t.lab, .sl 5 none false (Go.Proofs.YtbilmkcdhodenaaDoor.rows t.rows), .sl 3 none false (encL t.kids)] := by
  cases t; simp only [Nd.enc, Nd.lab, Nd.rows, Nd.kids]
theorem encL_map (l : List Nd) : encL l = l.map Nd.enc := by
  induction l with
  | nil => rfl
  | cons t r ih => simp only [encL, List.map_cons, ih]
@[simp] theorem encL_length (l : List Nd) : (encL l).length = l.length := by simp [encL_map]
theorem encL_getD {l : List Nd} {i : Nat} (h : i < l.length) (d : List C) : (encL l).getD i d = l[i].enc := by
  simp [encL_map, List.getD_eq_getElem?_getD, h]
/-! ## cells as nodes -/
mutual
def decC : C → List Nd
  | .sl _ _ _ xs => decL xs
  | _ => []
def decL : List (List C) → List Nd
  | [] => []
  | x :: r => decT x :: decL r
def decT : List C → Nd
  | [a, b, c] => .node a.st (toRows b.xs) (decC c)
  | _ => default
end
def okB : C → Bool
  | .sl 5 none false rs => isRows rs
  | _ => false
def okA : C → Bool
  | .str _ => true
  | _ => false
mutual
def okK : C → Bool
  | .sl z none false xs => z == 3 && isL xs
  | _ => false
def isL : List (List C) → Bool
  | [] => true
  | x :: r => isT x && isL r
def isT : List C → Bool
  | [a, b, c] => okA a && okB b && okK c
  | _ => false
end
mutual
theorem decT_enc : ∀ t : Nd, decT t.enc = t
  | .node lab rs kids => by
    rw [Nd.enc, decT, decC, decL_enc kids]
    simp [C.st, C.xs]
theorem decL_enc : ∀ l : List Nd, decL (encL l) = l
  | [] => rfl
  | t :: r => by rw [encL, decL, decT_enc t, decL_enc r]
end
mutual
theorem isT_enc : ∀ t : Nd, isT t.enc = true
  | .node lab rs kids => by
    rw [Nd.enc, isT, okK, isL_enc kids]
    simp [okA, okB]
theorem isL_enc : ∀ l : List Nd, isL (encL l) = true
  | [] => rfl
  | t :: r => by rw [encL, isL, isT_enc t, isL_enc r]; rfl
end
mutual
theorem okK_of : ∀ c : C, okK c = true → c = .sl 3 none false (encL (decC c))
  | .sl z none false xs, h => by
    simp only [okK, Bool.and_eq_true, beq_iff_eq] at h
    rw [h.1, decC, ← isL_of xs h.2]
  | .sl _ (some _) _ _, h => by simp [okK] at h
  | .sl _ none true _, h => by simp [okK] at h
  | .int _ _, h => by simp [okK] at h
  | .bool _, h => by simp [okK] at h
  | .str _, h => by simp [okK] at h
  | .pnil, h => by simp [okK] at h
  | .inil, h => by simp [okK] at h
  | .fnil, h => by simp [okK] at h
theorem isL_of : ∀ xs : List (List C), isL xs = true → xs = encL (decL xs)
  | [], _ => rfl
  | x :: r, h => by
    simp only [isL, Bool.and_eq_true] at h
    rw [decL, encL, ← isT_of x h.1, ← isL_of r h.2]
theorem isT_of : ∀ xs : List C, isT xs = true → xs = (decT xs).enc
  | [a, b, c], h => by
    simp only [isT, Bool.and_eq_true] at h
    obtain ⟨⟨h1, h2⟩, h3⟩ := h
    rw [decT, Nd.enc, ← okK_of c h3]
    have e1 : a = .str a.st := by
      cases a <;> simp [okA] at h1
      rfl
    have e2 : b = .sl 5 none false (Go.Proofs.YtbilmkcdhodenaaDoor.rows (toRows b.xs)) := by
      unfold okB at h2
      split at h2
      · simp only [C.xs]; rw [← rows_of h2]
      · simp at h2
    rw [← e1, ← e2]
  | [], h => by simp [isT] at h
  | [_], h => by simp [isT] at h
  | [_, _], h => by simp [isT] at h
  | _ :: _ :: _ :: _ :: _, h => by simp [isT] at h
end
theorem isL_ex {xs : List (List C)} (h : isL xs = true) : ∃ l, xs = encL l := ⟨_, isL_of xs h⟩
theorem isT_ex {xs : List C} (h : isT xs = true) : ∃ t : Nd, xs = t.enc := ⟨_, isT_of xs h⟩

/-! ## right ones -/
def hdB (l : List UInt8) : Int := ((l.headD 0).toNat : Int)
mutual
/-- A kid, of so many bytes of a path left. -/
def okT : Nd → Nat → Bool
  | .node lab rs kids, left => decide (lab ≠ []) && decide (lab.length ≤ left) && right rs && (decide (rs ≠ []) || decide (2 ≤ kids.length)) && okL kids (left - lab.length) (-1)
/-- Kids, whose first bytes rise, from behind one. -/
def okL : List Nd → Nat → Int → Bool
  | [], _, _ => true
  | t :: r, left, f => okT t left && decide (f < hdB t.lab) && okL r left (hdB t.lab)
end
theorem okT_eq (t : Nd) (n : Nat) : okT t n = (decide (t.lab ≠ []) && decide (t.lab.length ≤ n) && right t.rows && (decide (t.rows ≠ []) || decide (2 ≤ t.kids.length)) && okL t.kids (n - t.lab.length) (-1)) := by
  cases t; simp only [okT, Nd.lab, Nd.rows, Nd.kids]; rfl
/-- A right tree. -/
def okR (t : Nd) : Bool := decide (t.lab = []) && decide (t.rows = []) && okL t.kids 24 (-1)

/-! ## what a tree has -/
abbrev Ent := List UInt8 × List Row
mutual
def entT : Nd → List Ent
  | .node lab rs kids => (if rs = [] then [] else [(lab, rs)]) ++ (entL kids).map fun e => (lab ++ e.1, e.2)
def entL : List Nd → List Ent
  | [] => []
  | t :: r => entT t ++ entL r
end
theorem entT_eq (t : Nd) : entT t = (if t.rows = [] then [] else [(t.lab, t.rows)]) ++ (entL t.kids).map fun e => (t.lab ++ e.1, e.2) := by
  cases t; simp only [entT, Nd.lab, Nd.rows, Nd.kids]; rfl
def look : List Ent → List UInt8 → List Row
  | [], _ => []
  | e :: r, p => if e.1 = p then e.2 else look r p
def findK (b : UInt8) (l : List Nd) : Option Nd := l.find? fun k => decide (k.lab.head? = some b)
/-- What a path has below a node. -/
def getW : Nat → Nd → List UInt8 → List Row
  | 0, t, _ => t.rows
  | n + 1, t, p => match p with
    | [] => t.rows
    | b :: _ => match findK b t.kids with
      | none => []
      | some k => if k.lab <+: p then getW n k (p.drop k.lab.length) else []

theorem look_append (a b : List Ent) (p : List UInt8) (h : ∀ e ∈ a, e.2 ≠ []) : look (a ++ b) p = if look a p = [] then look b p else look a p := by
  induction a with
  | nil => simp [look]
  | cons e r ih =>
    simp only [List.cons_append, look]
    split
    · rw [if_neg (h e (by simp))]
    · exact ih fun x hx => h x (by simp [hx])
theorem look_none {l : List Ent} {p : List UInt8} (h : ∀ e ∈ l, e.1 ≠ p) : look l p = [] := by
  induction l with
  | nil => rfl
  | cons e r ih =>
    simp only [look]
    rw [if_neg (h e (by simp)), ih fun x hx => h x (by simp [hx])]
theorem look_map (l : List Ent) (a p : List UInt8) : look (l.map fun e => (a ++ e.1, e.2)) (a ++ p) = look l p := by
  induction l with
  | nil => rfl
  | cons e r ih => simp only [List.map_cons, look, List.append_cancel_left_eq, ih]
mutual
theorem entT_ne : ∀ (t : Nd), ∀ e ∈ entT t, e.2 ≠ []
  | .node lab rs kids, e, h => by
    simp only [entT, List.mem_append, List.mem_map] at h
    rcases h with h | ⟨x, hx, rfl⟩
    · split at h
      · simp at h
      · simp only [List.mem_singleton] at h; subst h; assumption
    · exact entL_ne kids x hx
theorem entL_ne : ∀ (l : List Nd), ∀ e ∈ entL l, e.2 ≠ []
  | [], e, h => by simp [entL] at h
  | t :: r, e, h => by
    simp only [entL, List.mem_append] at h
    exact h.elim (entT_ne t e) (entL_ne r e)
end
theorem entT_pre (t : Nd) : ∀ e ∈ entT t, ∃ s, e.1 = t.lab ++ s := by
  intro e h
  rw [entT_eq] at h
  simp only [List.mem_append, List.mem_map] at h
  rcases h with h | ⟨x, _, rfl⟩
  · split at h
    · simp at h
    · simp only [List.mem_singleton] at h; subst h; exact ⟨[], by simp⟩
  · exact ⟨x.1, rfl⟩
theorem entL_pre {l : List Nd} {e : Ent} (h : e ∈ entL l) : ∃ t ∈ l, ∃ s, e.1 = t.lab ++ s := by
  induction l with
  | nil => simp [entL] at h
  | cons t r ih =>
    simp only [entL, List.mem_append] at h
    rcases h with h | h
    · exact ⟨t, by simp, entT_pre t e h⟩
    · obtain ⟨u, hu, h2⟩ := ih h
      exact ⟨u, by simp [hu], h2⟩
theorem okL_mem {l : List Nd} {n : Nat} {f : Int} (h : okL l n f = true) : ∀ t ∈ l, okT t n = true ∧ f < hdB t.lab := by
  induction l generalizing f with
  | nil => simp
  | cons t r ih =>
    simp only [okL, Bool.and_eq_true, decide_eq_true_eq] at h
    intro u hu
    rcases List.mem_cons.1 hu with rfl | hu
    · exact ⟨h.1.1, h.1.2⟩
    · have := ih h.2 u hu
      exact ⟨this.1, by omega⟩
theorem okT_lab {t : Nd} {n : Nat} (h : okT t n = true) : t.lab ≠ [] ∧ t.lab.length ≤ n ∧ okL t.kids (n - t.lab.length) (-1) = true := by
  rw [okT_eq] at h
  simp only [Bool.and_eq_true, decide_eq_true_eq] at h
  exact ⟨h.1.1.1.1, h.1.1.1.2, h.2⟩
theorem hdB_head {l : List UInt8} {b : UInt8} (h : l.head? = some b) : hdB l = (b.toNat : Int) := by
  cases l with
  | nil => simp at h
  | cons x r => simp only [List.head?_cons, Option.some.injEq] at h; subst h; rfl
theorem head_of_ne {l : List UInt8} (h : l ≠ []) : ∃ b r, l = b :: r := by
  cases l with
  | nil => exact absurd rfl h
  | cons b r => exact ⟨b, r, rfl⟩
/-- What a path has among kids: it is of the kid that begins with its first byte. -/
theorem look_entL {l : List Nd} {n : Nat} {f : Int} (h : okL l n f = true) (b : UInt8) (p : List UInt8) :
    look (entL l) (b :: p) = match findK b l with
      | none => []
      | some k => if k.lab <+: b :: p then (if (b :: p).drop k.lab.length = [] then k.rows else look (entL k.kids) ((b :: p).drop k.lab.length)) else [] := by
  induction l generalizing f with
  | nil => rfl
  | cons t r ih =>
    simp only [okL, Bool.and_eq_true, decide_eq_true_eq] at h
    obtain ⟨⟨ht, hf⟩, hr⟩ := h
    have hne := (okT_lab ht).1
    obtain ⟨c, s, hlab⟩ := head_of_ne hne
    simp only [entL, findK, List.find?_cons]
    rw [look_append _ _ _ (entT_ne t)]
    by_cases hc : c = b
    · subst hc
      have h1 : decide (t.lab.head? = some c) = true := by simp [hlab]
      simp only [h1]
      have h2 : look (entL r) (c :: p) = [] := look_none fun e he hh => by
        obtain ⟨u, hu, s', hs⟩ := entL_pre he
        have h3 := (okL_mem hr u hu)
        obtain ⟨d, s2, hd⟩ := head_of_ne (okT_lab h3.1).1
        rw [hs, hd] at hh
        simp only [List.cons_append, List.cons.injEq] at hh
        have h4 := h3.2
        rw [hdB_head (l := u.lab) (b := d) (by simp [hd]), hdB_head (l := t.lab) (b := c) (by simp [hlab]), hh.1] at h4
        omega
      rw [h2]
      have h5 : ∀ x : List Row, (if x = [] then [] else x) = x := fun x => by split <;> simp_all
      rw [h5]
      split
      · rename_i hp
        obtain ⟨q, hq⟩ := hp
        have h6 : (c :: p).drop t.lab.length = q := by rw [← hq]; simp
        rw [h6, ← hq, entT_eq, look_append _ _ _ (by intro e he; split at he; · simp at he
                                                     · simp only [List.mem_singleton] at he; subst he; assumption), look_map]
        have h7 : look (if t.rows = [] then [] else [(t.lab, t.rows)]) (t.lab ++ q) = if q = [] then t.rows else [] := by
          split
          · split <;> simp_all [look]
          · simp only [look]
            by_cases hq0 : q = []
            · simp [hq0]
            · simp [hq0]
        rw [h7]
        by_cases hq0 : q = []
        · simp only [hq0, if_true]
          split
          · rename_i h8
            rw [h8]
            refine look_none fun e he hh => ?_
            obtain ⟨u, hu, s', hs⟩ := entL_pre he
            obtain ⟨d, s2, hd⟩ := head_of_ne (okT_lab (okL_mem (okT_lab ht).2.2 u hu).1).1
            rw [hs, hd] at hh
            simp at hh
          · rfl
        · simp [hq0]
      · rename_i hp
        refine look_none fun e he hh => hp ?_
        obtain ⟨s', hs⟩ := entT_pre t e he
        exact ⟨s', by rw [← hs, hh]⟩
    · have h1 : decide (t.lab.head? = some b) = false := by simp [hlab, hc]
      simp only [h1]
      have h2 : look (entT t) (b :: p) = [] := look_none fun e he hh => by
        obtain ⟨s', hs⟩ := entT_pre t e he
        rw [hs, hlab] at hh
        simp only [List.cons_append, List.cons.injEq] at hh
        exact hc hh.1
      rw [h2, if_pos rfl]
      exact ih hr
theorem getW_look (m : Nat) : ∀ {t : Nd} {n : Nat} {f : Int} (_ : okL t.kids n f = true) (p : List UInt8), p.length ≤ m → getW m t p = if p = [] then t.rows else look (entL t.kids) p := by
  induction m with
  | zero =>
    intro t n f _ p hp
    have : p = [] := by cases p <;> simp_all
    simp [this, getW]
  | succ m ih =>
    intro t n f h p hp
    cases p with
    | nil => simp [getW]
    | cons b p =>
      rw [if_neg (by simp), look_entL h]
      simp only [getW]
      cases hk : findK b t.kids with
      | none => rfl
      | some k =>
        have hm : k ∈ t.kids := List.mem_of_find?_eq_some hk
        have h1 := okT_lab (okL_mem h k hm).1
        simp only
        split
        · rw [ih h1.2.2 _ (by
            have : 0 < k.lab.length := List.length_pos_iff.2 h1.1
            simp only [List.length_drop, List.length_cons] at hp ⊢; omega)]
        · rfl
/-- What a path has in a right tree. -/
def getR (t : Nd) (p : List UInt8) : List Row := if okR t = true then getW p.length t p else []
theorem getR_look (t : Nd) (p : List UInt8) : getR t p = if okR t = true then look (entL t.kids) p else [] := by
  unfold getR
  split
  · rename_i h
    simp only [okR, Bool.and_eq_true, decide_eq_true_eq] at h
    rw [getW_look p.length h.2 p (Nat.le_refl _)]
    split
    · rename_i hp
      rw [h.1.2, hp]
      refine (look_none fun e he hh => ?_).symm
      obtain ⟨u, hu, s', hs⟩ := entL_pre he
      obtain ⟨d, s2, hd⟩ := head_of_ne (okT_lab (okL_mem h.2 u hu).1).1
      rw [hs, hd] at hh
      simp at hh
    · rfl
  · rfl
end Go.Proofs.YtbilmkcdhodenaaDoor

end

/-
  Chapter 12 (graph): commits as cells; what each function of graph computes, in plain Lean; what is known of each as a callee.
-/
section
namespace Go.Proofs.YtbilmkcdhodenaaDoor.Gr
open Go Go.Ev
/-- A commit: its parents, its stamp. -/
abbrev Cm := List Int × Int
def ec (c : Cm) : List C := [.sl 1 none false (ints c.1), .int .i64 c.2]
def repo (l : List Cm) : List (List C) := l.map ec
def toRepo (xs : List (List C)) : List Cm := xs.map fun c => (toInts (c.headD .pnil).xs, (c.tail.headD .pnil).i)
def isRepo (xs : List (List C)) : Bool := xs.all fun c => shOk [.sl 1, .int .i64] c && isInts (c.headD .pnil).xs

theorem ec_of {c : List C} (h : (shOk [.sl 1, .int .i64] c && isInts (c.headD .pnil).xs) = true) : c = ec (toInts (c.headD .pnil).xs, (c.tail.headD .pnil).i) := by
  simp only [Bool.and_eq_true] at h
  have h1 := shape_ok h.1
  unfold ec
  rw [← ints_of h.2]
  conv => lhs; rw [← h1]
  rfl
theorem repo_of {xs : List (List C)} (h : isRepo xs = true) : xs = repo (toRepo xs) := by
  induction xs with
  | nil => rfl
  | cons c r ih =>
    simp only [isRepo, List.all_cons] at h
    rw [Bool.and_eq_true] at h
    have h2 := ih h.2
    unfold repo toRepo at h2 ⊢
    simp only [List.map_cons]
    rw [← h2, ← ec_of h.1]
@[simp] theorem toRepo_repo (l : List Cm) : toRepo (repo l) = l := by
  simp [toRepo, repo, ec, Function.comp_def, C.xs, C.i]
@[simp] theorem isRepo_repo (l : List Cm) : isRepo (repo l) = true := by
  simp [isRepo, repo, ec, shOk, Sk.ok, C.xs]
@[simp] theorem repo_length (l : List Cm) : (repo l).length = l.length := by simp [repo]
theorem repo_getD {l : List Cm} {i : Nat} (h : i < l.length) : (repo l).getD i [] = ec l[i] := by
  simp [repo, List.getD_eq_getElem?_getD, h]
@[simp] theorem ec_ok (c : Cm) : shOk [.sl 1, .int .i64] (ec c) = true := rfl
@[simp] theorem ec_par (c : Cm) (d : C) : ((ec c).headD d).xs = ints c.1 := rfl
@[simp] theorem ec_stamp (c : Cm) (d : C) : ((ec c).tail.headD d).i = c.2 := rfl
@[simp] theorem repo_take (l : List Cm) (n : Nat) : (repo l).take n = repo (l.take n) := by simp [repo, List.map_take]
@[simp] theorem repo_drop (l : List Cm) (n : Nat) : (repo l).drop n = repo (l.drop n) := by simp [repo, List.map_drop]
/-- No number of a commit of so many. -/
def noNum (len : Nat) (n : Int) : Bool := decide (n < 1) || decide ((len : Int) < n)
def lateFor (l : List Cm) (st n : Int) : Bool := decide (st ≤ (l.getD (n - 1).toNat ([], 0)).2)
def faultG (l : List Cm) (c : Cm) : Int :=
  if c.2 < 0 ∨ 1099511627776 < c.2 ∨ 2 < c.1.length ∨ (c.1.length = 2 ∧ c.1.getD 0 0 = c.1.getD 1 0) then 2
  else if c.1.any (noNum l.length) then 17
  else if c.1.any (lateFor l c.2) then 14
  else 0
/-- The first commit that is not right, and why. -/
def checkFrom (l : List Cm) : Nat → Nat → Int × Int
  | 0, _ => (l.length, 0)
  | k + 1, i => if faultG (l.take i) (l.getD i ([], 0)) = 0 then checkFrom l k (i + 1) else (i + 1, faultG (l.take i) (l.getD i ([], 0)))
def checkG (l : List Cm) : Int × Int := if 500 < l.length then (500, 5) else checkFrom l l.length 0
def s180 : CSpec := fun a h => match a, h with
  | [.c (.int .i64 n), .ptr 0 0 0 0], [.box [.c (.sl 2 nl t xs)]] => some ([], [V.b (noNum xs.length n)], [.box [.c (.sl 2 nl t xs)]])
  | _, _ => none
def s109 : CSpec := s180
def s181 : CSpec := fun a h => match a, h with
  | [.c (.int .i64 n), .ptr 0 0 0 0, .ptr 1 0 0 0], [.box [.c (.sl 2 nl t xs)], .box [.c c, .c (.int .i64 st)]] =>
    some ([isRepo xs, !noNum xs.length n, decide (xs.length ≤ 500)], [V.b (lateFor (toRepo xs) st n)], [.box [.c (.sl 2 nl t xs)], .box [.c c, .c (.int .i64 st)]])
  | _, _ => none
end Go.Proofs.YtbilmkcdhodenaaDoor.Gr

end

/-
  Chapter 12 (graph): what the rest of graph computes, in plain Lean, step by step as the code does; what is known of each as a callee.
-/
section
namespace Go.Proofs.YtbilmkcdhodenaaDoor.Gr
open Go Go.Ev

def smallB (l : List Cm) : Bool := l.all fun c => decide (c.1.length ≤ 4294967296)
def right (l : List Cm) : Bool := (checkG l).2 == 0
def hasG (l : List Cm) (some : List Int) : Bool := right l && !some.any (noNum l.length)
def firstFrom (l : List Cm) : Nat → List Int → List Int
  | 0, _ => []
  | _ + 1, [] => []
  | k + 1, p :: _ => p :: firstFrom l k (l.getD (p - 1).toNat ([], 0)).1
def firstG (l : List Cm) (n : Int) : List Int := if hasG l [n] then n :: firstFrom l n.toNat (l.getD (n - 1).toNat ([], 0)).1 else []
def s107 : CSpec := fun a h => match a, h with
  | [.c (.sl 2 _ _ xs)], [] => some ([isRepo xs, smallB (toRepo xs)], [V.i (checkG (toRepo xs)).1, V.i (checkG (toRepo xs)).2], [])
  | _, _ => none
def s65 : CSpec := fun a h => match a, h with
  | [.c (.sl 2 _ _ xs), .c (.sl 1 _ _ ys)], [] => some ([isRepo xs, smallB (toRepo xs), isInts ys, decide (ys.length ≤ 4294967296)], [V.b (hasG (toRepo xs) (toInts ys))], [])
  | _, _ => none
def s28 : CSpec := fun a h => match a, h with
  | [.c (.sl 2 _ _ xs), .c (.int .i64 n)], [] => some ([isRepo xs, smallB (toRepo xs)], [.c (.sl 1 none false (ints (firstG (toRepo xs) n)))], [])
  | _, _ => none
end Go.Proofs.YtbilmkcdhodenaaDoor.Gr

end

/-
  Chapter 31 (search), plain: what its iterator hands over.
-/
section
namespace Go.Proofs.YtbilmkcdhodenaaDoor
open Go Go.Ev

/-- A run: a commit, a value. -/
structure Rn where
  c : Int
  v : Val
  deriving DecidableEq, Inhabited
@[reducible] def VN (x : Rn) : V := .agg [V.i x.c, V.i x.v.k, V.i x.v.n, .c (.str x.v.s)]
def worldOk (l : List Gr.Cm) (ts : List Nd) : Bool := Gr.right l && decide (ts.length = l.length) && ts.all okR
def valAt (ts : List Nd) (q : List UInt8) (t k : Int) : Val := atP (getR (ts.getD (k - 1).toNat default) q) t
/-- The commits along first parents, from one back, with the values of a path at a time. -/
def backP (l : List Gr.Cm) (ts : List Nd) (n : Int) (q : List UInt8) (t : Int) : List Rn := if worldOk l ts = true then (Gr.firstG l n).map fun k => ⟨k, valAt ts q t k⟩ else []
def encN (x : Rn) : List V := [VN x]
def sq : FuncId → List V → Hp → Option (List (List V)) := fun g a h => match g with
  | 100 => match a, h with
    | [_, .ptr 0 0 0 0, .ptr 1 0 0 0, .ptr 2 0 0 0, .ptr 3 0 0 0], [.box [.c (.sl 2 _ _ xs), .c (.sl 3 _ _ ys)], .box [.c (.int .i64 n)], .box [.c (.str q)], .box [.c (.int .i64 t)]] => some ((backP (Gr.toRepo xs) (decL ys) n q t).map encN)
    | _, _ => none
  | _ => none
end Go.Proofs.YtbilmkcdhodenaaDoor

end
