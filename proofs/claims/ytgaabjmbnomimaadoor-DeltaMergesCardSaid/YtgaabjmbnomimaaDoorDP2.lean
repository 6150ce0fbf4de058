/-
  Chapter 11 (delta): what sides hands over; Chapter 11, plain: what sides hand over, what comes of them; Chapter 11 (delta): what sides hands over, the whole; Chapter 11, plain: merges, changes, and what follows of them; Chapter 11 (delta): what comes of a path; whether trees are right; sides' closure; Chapter 11 (delta), trees, written by a program: Merge, Changes; Chapter 11 (delta): Merge, Changes; Chapter 11 (delta), trees, written by a program: what is small; Chapter 11 (delta): what is small; lives; Chapter 11 (delta): small trees have few entries; changes as cells; conflicts; Entries and.
-/
import Derived.Test.YtgaabjmbnomimaaDoorQP2
set_option linter.all false
namespace Go.Proofs.YtgaabjmbnomimaaDoor
open Go Go.Ev
def rcN : List Row → Option Bool | [] => some true | _ :: _ => none
def rcT : List Row → Bool | [] => true | _ :: _ => false
theorem rowsV_eq (rs : List Row) : rowsV rs = .c (.sl 5 (rcN rs) (rcT rs) (rows rs)) := by cases rs <;> rfl
abbrev pk {α : Type} (j k : Nat) (a b : α) : α := if j < k then a else b
section
variable (kn : OBo) (kt : Bool) (xsh : LLC) (r : List (List V)) (q : Bool) (n0 : OBo) (t0 : Bool) (x : List Ent) (n1 : OBo) (t1 : Bool) (y : List Ent) (n2 : OBo) (t2 : Bool) (z : List Ent)
theorem stepA0 (p : Bys) : p137.ld bA137 (p137.lts bA137 (sA137 kn kt xsh r q n0 t0 (ents x) n1 t1 (ents y) n2 t2 (ents z) p 0)) = some (R.s (sA137 kn kt xsh r q n0 t0 (ents x) n1 t1 (ents y) n2 t2 (ents z) (leastP p x) 1)) := by
  rw [t137A0]
  cases x with
  | nil => rfl
  | cons e l =>
    have h1 : (0 : Int) < ((ents (e :: l)).length : Nat) := by rw [ents_length, List.length_cons]; omega
    have h2 : Int.toNat 0 < (ents (e :: l)).length := by rw [ents_length, List.length_cons]; exact Nat.succ_pos _
    have h3 : (ents (e :: l)).getD (Int.toNat 0) [] = ee e := rfl
    cases p with
    | nil => simp only [ld_br, ld_chk', ld_leaf, h1, h2, h3, ee_ok, ee_p, decide_true, if_true, beq_self_eq_true]; rfl
    | cons b s =>
      have h4 : (b :: s == []) = false := rfl
      simp only [ld_br, ld_chk', ld_leaf, h1, h2, h3, h4, ee_ok, ee_p, decide_true, if_true, Bool.false_eq_true, if_false, leastP]
      cases Op.bytesLess e.1 (b :: s) <;> rfl
theorem stepA1 (p : Bys) : p137.ld bA137 (p137.lts bA137 (sA137 kn kt xsh r q n0 t0 (ents x) n1 t1 (ents y) n2 t2 (ents z) p 1)) = some (R.s (sA137 kn kt xsh r q n0 t0 (ents x) n1 t1 (ents y) n2 t2 (ents z) (leastP p y) 2)) := by
  rw [t137A1]
  cases y with
  | nil => rfl
  | cons e l =>
    have h1 : (0 : Int) < ((ents (e :: l)).length : Nat) := by rw [ents_length, List.length_cons]; omega
    have h2 : Int.toNat 0 < (ents (e :: l)).length := by rw [ents_length, List.length_cons]; exact Nat.succ_pos _
    have h3 : (ents (e :: l)).getD (Int.toNat 0) [] = ee e := rfl
    cases p with
    | nil => simp only [ld_br, ld_chk', ld_leaf, h1, h2, h3, ee_ok, ee_p, decide_true, if_true, beq_self_eq_true]; rfl
    | cons b s =>
      have h4 : (b :: s == []) = false := rfl
      simp only [ld_br, ld_chk', ld_leaf, h1, h2, h3, h4, ee_ok, ee_p, decide_true, if_true, Bool.false_eq_true, if_false, leastP]
      cases Op.bytesLess e.1 (b :: s) <;> rfl
theorem stepA2 (p : Bys) : p137.ld bA137 (p137.lts bA137 (sA137 kn kt xsh r q n0 t0 (ents x) n1 t1 (ents y) n2 t2 (ents z) p 2)) = some (R.s (sA137 kn kt xsh r q n0 t0 (ents x) n1 t1 (ents y) n2 t2 (ents z) (leastP p z) 3)) := by
  rw [t137A2]
  cases z with
  | nil => rfl
  | cons e l =>
    have h1 : (0 : Int) < ((ents (e :: l)).length : Nat) := by rw [ents_length, List.length_cons]; omega
    have h2 : Int.toNat 0 < (ents (e :: l)).length := by rw [ents_length, List.length_cons]; exact Nat.succ_pos _
    have h3 : (ents (e :: l)).getD (Int.toNat 0) [] = ee e := rfl
    cases p with
    | nil => simp only [ld_br, ld_chk', ld_leaf, h1, h2, h3, ee_ok, ee_p, decide_true, if_true, beq_self_eq_true]; rfl
    | cons b s =>
      have h4 : (b :: s == []) = false := rfl
      simp only [ld_br, ld_chk', ld_leaf, h1, h2, h3, h4, ee_ok, ee_p, decide_true, if_true, Bool.false_eq_true, if_false, leastP]
      cases Op.bytesLess e.1 (b :: s) <;> rfl
theorem hct137 : (ctOf [(34, s34)]).ok E := ctOf_cons s34_ok ctOf_nil
def least3 (x y z : List Ent) : List UInt8 := leastP (leastP (leastP [] x) y) z
theorem loopA : ∃ xx, xx = xA137 kn kt xsh r q n0 t0 (ents x) n1 t1 (ents y) n2 t2 (ents z) (least3 x y z) ∧ p137.Loops bA137 (sA137 kn kt xsh r q n0 t0 (ents x) n1 t1 (ents y) n2 t2 (ents z) [] 0) xx := by
  refine list_post (p := p137) hct137 (b := bA137) 3 (fun k (p : Bys) => sA137 kn kt xsh r q n0 t0 (ents x) n1 t1 (ents y) n2 t2 (ents z) p k)
    (fun k p => p = match k with | 0 => [] | 1 => leastP [] x | 2 => leastP (leastP [] x) y | _ => least3 x y z) (fun xx => xx = xA137 kn kt xsh r q n0 t0 (ents x) n1 t1 (ents y) n2 t2 (ents z) (least3 x y z)) ?_ ?_ 0 (Nat.zero_le _) [] rfl
  · intro k p hk hp
    match k, hk, hp with
    | 0, _, hp => subst hp; exact .inl ⟨_, rfl, stepA0 kn kt xsh r q n0 t0 x n1 t1 y n2 t2 z []⟩
    | 1, _, hp => subst hp; exact .inl ⟨_, rfl, stepA1 kn kt xsh r q n0 t0 x n1 t1 y n2 t2 z _⟩
    | 2, _, hp => subst hp; exact .inl ⟨_, rfl, stepA2 kn kt xsh r q n0 t0 x n1 t1 y n2 t2 z _⟩
  · intro p hp
    subst hp
    refine ⟨_, ?_, rfl, ?_⟩
    · simp
    · show p137.ld bA137 (p137.lts bA137 (sA137 kn kt xsh r q n0 t0 (ents x) n1 t1 (ents y) n2 t2 (ents z) (least3 x y z) 3)) = _
      rw [t137A3]; rfl
abbrev sBk (p : Bys) (k : Nat) : Fr × Hp := sB137 kn kt xsh r q n0 t0 (ents x) n1 t1 (ents y) n2 t2 (ents z) n0 t0 (ents (pk 0 k (tailP p x) x)) n1 t1 (ents (pk 1 k (tailP p y) y)) n2 t2 (ents (pk 2 k (tailP p z) z))
  p (rcN (pk 0 k (headP p x) [])) (rcT (pk 0 k (headP p x) [])) (rows (pk 0 k (headP p x) [])) (rcN (pk 1 k (headP p y) [])) (rcT (pk 1 k (headP p y) [])) (rows (pk 1 k (headP p y) [])) (rcN (pk 2 k (headP p z) [])) (rcT (pk 2 k (headP p z) [])) (rows (pk 2 k (headP p z) [])) k
theorem rc_ne {l : List Row} (h : l ≠ []) : rcN l = none ∧ rcT l = false := by cases l with | nil => exact absurd rfl h | cons a r => exact ⟨rfl, rfl⟩
theorem loopB (p : Bys) (hx : ∀ e ∈ x, e.2 ≠ []) (hy : ∀ e ∈ y, e.2 ≠ []) (hz : ∀ e ∈ z, e.2 ≠ []) : ∃ xx, xx = xB137 kn kt xsh r q n0 t0 (ents x) n1 t1 (ents y) n2 t2 (ents z) n0 t0 (ents (tailP p x)) n1 t1 (ents (tailP p y)) n2 t2 (ents (tailP p z))
    p (rcN (headP p x)) (rcT (headP p x)) (rows (headP p x)) (rcN (headP p y)) (rcT (headP p y)) (rows (headP p y)) (rcN (headP p z)) (rcT (headP p z)) (rows (headP p z)) ∧ p137.Loops bB137 (sBk kn kt xsh r q n0 t0 x n1 t1 y n2 t2 z p 0) xx := by
  refine list_post (p := p137) hct137 (b := bB137) 3 (fun k (_ : Unit) => sBk kn kt xsh r q n0 t0 x n1 t1 y n2 t2 z p k) (fun _ _ => True) (fun xx => xx = _) ?_ ?_ 0 (Nat.zero_le _) () trivial
  · intro k _ hk _
    have hd : ∀ n : Nat, decide (n = n) = true := fun n => by simp
    have hle : ∀ n : Nat, decide (n ≤ n) = true := fun n => by simp
    match k, hk with
    | 0, _ =>
      refine .inl ⟨(), trivial, ?_⟩
      show p137.ld bB137 (p137.lts bB137 (sB137 kn kt xsh r q n0 t0 (ents x) n1 t1 (ents y) n2 t2 (ents z) n0 t0 (ents x) n1 t1 (ents y) n2 t2 (ents z) p (rcN []) (rcT []) (rows []) (rcN []) (rcT []) (rows []) (rcN []) (rcT []) (rows []) 0)) = _
      rw [t137B0]
      cases x with
      | nil => rfl
      | cons e l =>
        have h1 : (0 : Int) < ((ents (e :: l)).length : Nat) := by rw [ents_length, List.length_cons]; omega
        have h2 : Int.toNat 0 < (ents (e :: l)).length := by rw [ents_length, List.length_cons]; exact Nat.succ_pos _
        have h3 : (ents (e :: l)).getD (Int.toNat 0) [] = ee e := rfl
        have h5 : Int.toNat 1 ≤ (ents (e :: l)).length := h2
        obtain ⟨r1, r2⟩ := rc_ne (hx e (by simp))
        simp only [ld_br, ld_chk', ld_leaf, h1, h2, h3, h5, ee_ok, ee_p, ee_r, decide_true, if_true, hd, hle, List.take_length, cutTight, Bool.and_true]
        cases c : e.1 == p with
        | false => simp only [Bool.false_eq_true, if_false, sBk, pk, Nat.zero_add, Nat.reduceAdd, Nat.reduceLT, Nat.reduceLeDiff, Nat.reduceEqDiff, Nat.lt_irrefl, reduceIte, headP, tailP, c, cond_false]; rfl
        | true => simp only [if_true, sBk, pk, Nat.zero_add, Nat.reduceAdd, Nat.reduceLT, Nat.reduceLeDiff, Nat.reduceEqDiff, Nat.lt_irrefl, reduceIte, headP, tailP, c, cond_true, r1, r2]; rfl
    | 1, _ =>
      refine .inl ⟨(), trivial, ?_⟩
      show p137.ld bB137 (p137.lts bB137 (sB137 kn kt xsh r q n0 t0 (ents x) n1 t1 (ents y) n2 t2 (ents z) n0 t0 (ents (tailP p x)) n1 t1 (ents y) n2 t2 (ents z) p (rcN (headP p x)) (rcT (headP p x)) (rows (headP p x)) (rcN []) (rcT []) (rows []) (rcN []) (rcT []) (rows []) 1)) = _
      rw [t137B1]
      cases y with
      | nil => rfl
      | cons e l =>
        have h1 : (0 : Int) < ((ents (e :: l)).length : Nat) := by rw [ents_length, List.length_cons]; omega
        have h2 : Int.toNat 0 < (ents (e :: l)).length := by rw [ents_length, List.length_cons]; exact Nat.succ_pos _
        have h3 : (ents (e :: l)).getD (Int.toNat 0) [] = ee e := rfl
        have h5 : Int.toNat 1 ≤ (ents (e :: l)).length := h2
        obtain ⟨r1, r2⟩ := rc_ne (hy e (by simp))
        simp only [ld_br, ld_chk', ld_leaf, h1, h2, h3, h5, ee_ok, ee_p, ee_r, decide_true, if_true, hd, hle, List.take_length, cutTight, Bool.and_true]
        cases c : e.1 == p with
        | false => simp only [Bool.false_eq_true, if_false, sBk, pk, Nat.zero_add, Nat.reduceAdd, Nat.reduceLT, Nat.reduceLeDiff, Nat.reduceEqDiff, Nat.lt_irrefl, reduceIte, headP, tailP, c, cond_false]; rfl
        | true => simp only [if_true, sBk, pk, Nat.zero_add, Nat.reduceAdd, Nat.reduceLT, Nat.reduceLeDiff, Nat.reduceEqDiff, Nat.lt_irrefl, reduceIte, headP, tailP, c, cond_true, r1, r2]; rfl
    | 2, _ =>
      refine .inl ⟨(), trivial, ?_⟩
      show p137.ld bB137 (p137.lts bB137 (sB137 kn kt xsh r q n0 t0 (ents x) n1 t1 (ents y) n2 t2 (ents z) n0 t0 (ents (tailP p x)) n1 t1 (ents (tailP p y)) n2 t2 (ents z) p (rcN (headP p x)) (rcT (headP p x)) (rows (headP p x)) (rcN (headP p y)) (rcT (headP p y)) (rows (headP p y)) (rcN []) (rcT []) (rows []) 2)) = _
      rw [t137B2]
      cases z with
      | nil => rfl
      | cons e l =>
        have h1 : (0 : Int) < ((ents (e :: l)).length : Nat) := by rw [ents_length, List.length_cons]; omega
        have h2 : Int.toNat 0 < (ents (e :: l)).length := by rw [ents_length, List.length_cons]; exact Nat.succ_pos _
        have h3 : (ents (e :: l)).getD (Int.toNat 0) [] = ee e := rfl
        have h5 : Int.toNat 1 ≤ (ents (e :: l)).length := h2
        obtain ⟨r1, r2⟩ := rc_ne (hz e (by simp))
        simp only [ld_br, ld_chk', ld_leaf, h1, h2, h3, h5, ee_ok, ee_p, ee_r, decide_true, if_true, hd, hle, List.take_length, cutTight, Bool.and_true]
        cases c : e.1 == p with
        | false => simp only [Bool.false_eq_true, if_false, sBk, pk, Nat.zero_add, Nat.reduceAdd, Nat.reduceLT, Nat.reduceLeDiff, Nat.reduceEqDiff, Nat.lt_irrefl, reduceIte, headP, tailP, c, cond_false]; rfl
        | true => simp only [if_true, sBk, pk, Nat.zero_add, Nat.reduceAdd, Nat.reduceLT, Nat.reduceLeDiff, Nat.reduceEqDiff, Nat.lt_irrefl, reduceIte, headP, tailP, c, cond_true, r1, r2]; rfl
  · intro _ _
    refine ⟨_, ?_, rfl, ?_⟩
    · simp
    · show p137.ld bB137 (p137.lts bB137 (sB137 kn kt xsh r q n0 t0 (ents x) n1 t1 (ents y) n2 t2 (ents z) n0 t0 (ents (tailP p x)) n1 t1 (ents (tailP p y)) n2 t2 (ents (tailP p z)) p (rcN (headP p x)) (rcT (headP p x)) (rows (headP p x)) (rcN (headP p y)) (rcT (headP p y)) (rows (headP p y)) (rcN (headP p z)) (rcT (headP p z)) (rows (headP p z)) 3)) = _
      rw [t137B3]; rfl
end
end Go.Proofs.YtgaabjmbnomimaaDoor
namespace Go.Proofs.YtgaabjmbnomimaaDoor
open Go Go.Ev
theorem bl_ge {e p q : List UInt8} (h : Op.bytesLess e p = false) (k : Op.bytesLess p q = false) : Op.bytesLess e q = false := by
  cases c : Op.bytesLess e q with
  | false => rfl
  | true =>
    cases d : Op.bytesLess q p with
    | true => rw [bl_trans c d] at h; cases h
    | false => rw [bl_total _ _ k d, c] at h; cases h
theorem bl_gt {p q : List UInt8} (h : Op.bytesLess q p = false) (k : q ≠ p) : Op.bytesLess p q = true := by
  cases c : Op.bytesLess p q with
  | true => rfl
  | false => exact absurd (bl_total _ _ h c) k
theorem look_in {l : List Ent} {e : Ent} (h : Rise l) (he : e ∈ l) : look l e.1 = e.2 := by
  induction l with
  | nil => cases he
  | cons a l ih =>
    rw [Rise, List.pairwise_cons] at h
    rw [look]
    rcases List.mem_cons.1 he with rfl | he
    · rw [if_pos rfl]
    · rw [if_neg (bl_ne (h.1 e he)), ih h.2 he]
theorem look_ex {l : List Ent} {q : List UInt8} (h : look l q ≠ []) : ∃ e ∈ l, e.1 = q := by
  induction l with
  | nil => exact absurd rfl h
  | cons a l ih =>
    rw [look] at h
    split at h
    · rename_i c; exact ⟨a, by simp, c⟩
    · obtain ⟨e, h1, h2⟩ := ih h; exact ⟨e, by simp [h1], h2⟩
theorem rise_ext : ∀ {x y : List Ent}, Rise x → Rise y → (∀ e ∈ x, e.2 ≠ []) → (∀ e ∈ y, e.2 ≠ []) → (∀ q, look x q = look y q) → x = y
  | [], [], _, _, _, _, _ => rfl
  | [], e :: l, _, hy, _, ny, h => by
    have := h e.1
    rw [look_in hy (by simp)] at this
    exact absurd this.symm (ny e (by simp))
  | e :: l, [], hx, _, nx, _, h => by
    have := h e.1
    rw [look_in hx (by simp)] at this
    exact absurd this (nx e (by simp))
  | e :: l, d :: m, hx, hy, nx, ny, h => by
    have hx' := hx; have hy' := hy
    rw [Rise, List.pairwise_cons] at hx' hy'
    have key : ∀ {e d : Ent} {l m : List Ent}, Rise (e :: l) → (∀ a ∈ m, Op.bytesLess d.1 a.1 = true) → e.2 ≠ [] → look (e :: l) e.1 = look (d :: m) e.1 → Op.bytesLess e.1 d.1 = false := fun {e d l m} hx hm ne hh => by
      rw [look_in hx (by simp)] at hh
      obtain ⟨a, ha, hae⟩ := look_ex (l := d :: m) (q := e.1) (by rw [← hh]; exact ne)
      rw [← hae]
      rcases List.mem_cons.1 ha with rfl | ha
      · exact bl_irrefl _
      · exact bl_asymm (hm a ha)
    have e1 : e.1 = d.1 := bl_total _ _ (key hx hy'.1 (nx e (by simp)) (h e.1)) (key hy hx'.1 (ny d (by simp)) (h d.1).symm)
    have e2 : e.2 = d.2 := by
      have := h e.1
      rw [look_in hx (by simp), e1, look_in hy (by simp)] at this; exact this
    have ed : e = d := Prod.ext e1 e2
    subst ed
    have hl : l = m := by
      refine rise_ext hx'.2 hy'.2 (fun a ha => nx a (by simp [ha])) (fun a ha => ny a (by simp [ha])) fun q => ?_
      by_cases c : e.1 = q
      · rw [look_none fun a ha k => bl_ne (hx'.1 a ha) (by rw [k, c]), look_none fun a ha k => bl_ne (hy'.1 a ha) (by rw [k, c])]
      · have := h q
        rw [look, look, if_neg c, if_neg c] at this; exact this
    rw [hl]
abbrev Pne (x : List Ent) : Prop := ∀ e ∈ x, e.1 ≠ []
abbrev Rne (x : List Ent) : Prop := ∀ e ∈ x, e.2 ≠ []
abbrev Lo (p : Bys) (x : List Ent) : Prop := ∀ e ∈ x, Op.bytesLess e.1 p = false
theorem Lo.mono {p q : List UInt8} {x : List Ent} (h : Lo p x) (k : Op.bytesLess p q = false) : Lo q x := fun e he => bl_ge (h e he) k
theorem leastP_spec (p : Bys) {x : List Ent} (hx : Rise x) (nx : Pne x) :
    (leastP p x = [] ↔ p = [] ∧ x = []) ∧ Lo (leastP p x) x ∧ (p ≠ [] → Op.bytesLess p (leastP p x) = false) ∧ (leastP p x = p ∨ ∃ e ∈ x, leastP p x = e.1) := by
  cases x with
  | nil => exact ⟨by simp [leastP], by simp, fun _ => bl_irrefl _, .inl rfl⟩
  | cons e l =>
    have hne := nx e (by simp)
    have hlo : Lo e.1 (e :: l) := fun a ha => by
      rcases List.mem_cons.1 ha with rfl | ha
      · exact bl_irrefl _
      · rw [Rise, List.pairwise_cons] at hx; exact bl_asymm (hx.1 a ha)
    cases p with
    | nil => exact ⟨by simp [leastP, hne], hlo, fun h => absurd rfl h, .inr ⟨e, by simp, rfl⟩⟩
    | cons b q =>
      simp only [leastP]
      cases c : Op.bytesLess e.1 (b :: q) with
      | true => exact ⟨by simp [hne], hlo, fun _ => bl_asymm c, .inr ⟨e, by simp, rfl⟩⟩
      | false => exact ⟨by simp, hlo.mono c, fun _ => bl_irrefl _, .inl rfl⟩
theorem least3_spec {x y z : List Ent} (hx : Rise x) (hy : Rise y) (hz : Rise z) (nx : Pne x) (ny : Pne y) (nz : Pne z) :
    (leastP (leastP (leastP [] x) y) z = [] ↔ x = [] ∧ y = [] ∧ z = []) ∧ Lo (leastP (leastP (leastP [] x) y) z) x ∧ Lo (leastP (leastP (leastP [] x) y) z) y ∧ Lo (leastP (leastP (leastP [] x) y) z) z ∧
    (leastP (leastP (leastP [] x) y) z ≠ [] → ∃ e, (e ∈ x ∨ e ∈ y ∨ e ∈ z) ∧ leastP (leastP (leastP [] x) y) z = e.1) := by
  obtain ⟨a1, a2, a3, a4⟩ := leastP_spec [] hx nx
  obtain ⟨b1, b2, b3, b4⟩ := leastP_spec (leastP [] x) hy ny
  obtain ⟨c1, c2, c3, c4⟩ := leastP_spec (leastP (leastP [] x) y) hz nz
  generalize leastP [] x = p at *
  generalize leastP p y = q at *
  generalize leastP q z = r at *
  have hqr : ∀ {w : List Ent}, Lo q w → (q = [] → w = []) → Lo r w := fun {w} h k => by
    by_cases c : q = []
    · rw [k c]; simp
    · exact h.mono (c3 c)
  have hpq : ∀ {w : List Ent}, Lo p w → (p = [] → w = []) → Lo q w := fun {w} h k => by
    by_cases c : p = []
    · rw [k c]; simp
    · exact h.mono (b3 c)
  refine ⟨by rw [c1, b1, a1]; simp [and_assoc], hqr (hpq a2 fun h => (a1.1 h).2) fun h => (a1.1 (b1.1 h).1).2, hqr b2 fun h => (b1.1 h).2, c2, fun hr => ?_⟩
  rcases c4 with c4 | ⟨e, he, c4⟩
  · rcases b4 with b4 | ⟨e, he, b4⟩
    · rcases a4 with a4 | ⟨e, he, a4⟩
      · exact absurd (by rw [c4, b4, a4]) hr
      · exact ⟨e, .inl he, by rw [c4, b4, a4]⟩
    · exact ⟨e, .inr (.inl he), by rw [c4, b4]⟩
  · exact ⟨e, .inr (.inr he), c4⟩
theorem headP_look {p : List UInt8} {x : List Ent} (hx : Rise x) (h : Lo p x) : headP p x = look x p := by
  cases x with
  | nil => rfl
  | cons e l =>
    rw [headP, look]
    by_cases c : e.1 = p
    · rw [if_pos c, beq_iff_eq.2 c]; rfl
    · rw [if_neg c, beq_eq_false_iff_ne.2 c]
      rw [Rise, List.pairwise_cons] at hx
      have h1 := bl_gt (h e (by simp)) c
      exact (look_none fun a ha k => bl_ne (bl_trans h1 (hx.1 a ha)) k.symm).symm
theorem tailP_sub (p : Bys) (x : List Ent) : (tailP p x).Sublist x := by
  cases x with
  | nil => exact .slnil
  | cons e l => rw [tailP]; cases e.1 == p with | true => exact List.sublist_cons_self _ _ | false => exact List.Sublist.refl _
theorem tailP_gt {p : List UInt8} {x : List Ent} (hx : Rise x) (h : Lo p x) : ∀ e ∈ tailP p x, Op.bytesLess p e.1 = true := by
  cases x with
  | nil => simp [tailP]
  | cons e l =>
    intro a ha
    rw [Rise, List.pairwise_cons] at hx
    rw [tailP] at ha
    cases c : e.1 == p with
    | true =>
      rw [c] at ha
      have := hx.1 a ha
      rw [beq_iff_eq.1 c] at this; exact this
    | false =>
      rw [c] at ha
      have h1 := bl_gt (h e (by simp)) (beq_eq_false_iff_ne.1 c)
      rcases List.mem_cons.1 ha with rfl | ha
      · exact h1
      · exact bl_trans h1 (hx.1 a ha)
theorem tailP_look {p q : List UInt8} {x : List Ent} (hq : q ≠ p) : look (tailP p x) q = look x q := by
  cases x with
  | nil => rfl
  | cons e l =>
    rw [tailP, look]
    cases c : e.1 == p with
    | true => rw [if_neg (by rw [beq_iff_eq.1 c]; exact fun h => hq h.symm)]; rfl
    | false => rfl
theorem tailP_len {p : List UInt8} {x : List Ent} (hx : Rise x) (h : Lo p x) {e : Ent} (he : e ∈ x) (hp : p = e.1) : (tailP p x).length < x.length := by
  cases x with
  | nil => cases he
  | cons a l =>
    have : (a.1 == p) = true := by
      rw [beq_iff_eq]
      rcases List.mem_cons.1 he with rfl | he
      · exact hp.symm
      · rw [Rise, List.pairwise_cons] at hx
        have h1 := hx.1 e he
        rw [← hp, h a (by simp)] at h1; cases h1
    rw [tailP, this]; simp
theorem sidesF_end (f : Nat) {x y z : List Ent} (h : leastP (leastP (leastP [] x) y) z = []) : sidesF (f + 1) x y z = [] := by rw [sidesF, h]
theorem sidesF_step (f : Nat) {x y z : List Ent} {p : List UInt8} (h : leastP (leastP (leastP [] x) y) z = p) (hp : p ≠ []) :
    sidesF (f + 1) x y z = ⟨p, headP p x, headP p y, headP p z⟩ :: sidesF f (tailP p x) (tailP p y) (tailP p z) := by
  rw [sidesF, h]
  cases p with
  | nil => exact absurd rfl hp
  | cons b q => rfl
structure SP (x y z : List Ent) (S : List Sd) : Prop where
  rise : S.Pairwise fun s t => Op.bytesLess s.p t.p = true
  ne : ∀ s ∈ S, s.p ≠ []
  a : ∀ s ∈ S, s.a = look x s.p
  b : ∀ s ∈ S, s.b = look y s.p
  c : ∀ s ∈ S, s.c = look z s.p
  mem : ∀ s ∈ S, ∃ e, (e ∈ x ∨ e ∈ y ∨ e ∈ z) ∧ e.1 = s.p
  all : ∀ e, e ∈ x ∨ e ∈ y ∨ e ∈ z → ∃ s ∈ S, s.p = e.1
theorem sidesF_spec : ∀ (f : Nat) (x y z : List Ent), x.length + y.length + z.length < f → Rise x → Rise y → Rise z → Pne x → Pne y → Pne z → SP x y z (sidesF f x y z)
  | 0, x, y, z, h, _, _, _, _, _, _ => by omega
  | f + 1, x, y, z, h, hx, hy, hz, nx, ny, nz => by
    obtain ⟨h1, h2, h3, h4, h5⟩ := least3_spec hx hy hz nx ny nz
    generalize hp : leastP (leastP (leastP [] x) y) z = p at *
    by_cases c : p = []
    · subst c
      obtain ⟨rfl, rfl, rfl⟩ := h1.1 rfl
      rw [sidesF_end f hp]
      exact ⟨.nil, by simp, by simp, by simp, by simp, by simp, by simp⟩
    · rw [sidesF_step f hp c]
      have sx := tailP_sub p x; have sy := tailP_sub p y; have sz := tailP_sub p z
      have hlen : (tailP p x).length + (tailP p y).length + (tailP p z).length < f := by
        obtain ⟨e, he, hpe⟩ := h5 c
        have l1 := sx.length_le; have l2 := sy.length_le; have l3 := sz.length_le
        rcases he with he | he | he
        · have := tailP_len hx h2 he hpe; omega
        · have := tailP_len hy h3 he hpe; omega
        · have := tailP_len hz h4 he hpe; omega
      have ih := sidesF_spec f (tailP p x) (tailP p y) (tailP p z) hlen (hx.sublist sx) (hy.sublist sy) (hz.sublist sz) (fun e he => nx e (sx.subset he)) (fun e he => ny e (sy.subset he)) (fun e he => nz e (sz.subset he))
      have hgt : ∀ s ∈ sidesF f (tailP p x) (tailP p y) (tailP p z), Op.bytesLess p s.p = true := fun s hs => by
        obtain ⟨e, he, hpe⟩ := ih.mem s hs
        rw [← hpe]
        rcases he with he | he | he
        · exact tailP_gt hx h2 e he
        · exact tailP_gt hy h3 e he
        · exact tailP_gt hz h4 e he
      have hne : ∀ s ∈ sidesF f (tailP p x) (tailP p y) (tailP p z), s.p ≠ p := fun s hs k => bl_ne (hgt s hs) k.symm
      refine ⟨List.pairwise_cons.2 ⟨hgt, ih.rise⟩, ?_, ?_, ?_, ?_, ?_, ?_⟩
      · intro s hs
        rcases List.mem_cons.1 hs with rfl | hs
        · exact c
        · exact ih.ne s hs
      · intro s hs
        rcases List.mem_cons.1 hs with rfl | hs
        · exact headP_look hx h2
        · rw [ih.a s hs, tailP_look (hne s hs)]
      · intro s hs
        rcases List.mem_cons.1 hs with rfl | hs
        · exact headP_look hy h3
        · rw [ih.b s hs, tailP_look (hne s hs)]
      · intro s hs
        rcases List.mem_cons.1 hs with rfl | hs
        · exact headP_look hz h4
        · rw [ih.c s hs, tailP_look (hne s hs)]
      · intro s hs
        rcases List.mem_cons.1 hs with rfl | hs
        · obtain ⟨e, he, hpe⟩ := h5 c
          exact ⟨e, he, hpe.symm⟩
        · obtain ⟨e, he, hpe⟩ := ih.mem s hs
          exact ⟨e, he.imp (fun h => sx.subset h) (Or.imp (fun h => sy.subset h) fun h => sz.subset h), hpe⟩
      · intro e he
        have tl : ∀ {w : List Ent}, Lo p w → e ∈ w → e.1 = p ∨ e ∈ tailP p w := fun {w} hw hew => by
          by_cases k : e.1 = p
          · exact .inl k
          · right
            cases w with
            | nil => cases hew
            | cons d l =>
              rw [tailP]
              cases k2 : d.1 == p with
              | false => exact hew
              | true =>
                rcases List.mem_cons.1 hew with rfl | hew
                · exact absurd (beq_iff_eq.1 k2) k
                · exact hew
        have hh : e.1 = p ∨ (e ∈ tailP p x ∨ e ∈ tailP p y ∨ e ∈ tailP p z) := by
          rcases he with he | he | he
          · exact (tl h2 he).imp id .inl
          · exact (tl h3 he).imp id fun h => .inr (.inl h)
          · exact (tl h4 he).imp id fun h => .inr (.inr h)
        rcases hh with hh | hh
        · exact ⟨_, List.mem_cons_self, hh.symm⟩
        · obtain ⟨s, hs, hp⟩ := ih.all e hh
          exact ⟨s, by simp [hs], hp⟩
structure Gd (x : List Ent) : Prop where
  rise : Rise x
  pne : Pne x
  rne : Rne x
  len : ∀ e ∈ x, e.1.length ≤ 24
  right : ∀ e ∈ x, right e.2 = true
theorem sidesP_spec {x y z : List Ent} (hx : Gd x) (hy : Gd y) (hz : Gd z) : SP x y z (sidesP x y z) :=
  sidesF_spec _ x y z (Nat.lt_succ_self _) hx.rise hy.rise hz.rise hx.pne hy.pne hz.pne
theorem Gd.nil : Gd [] := ⟨.nil, by simp, by simp, by simp, by simp⟩
mutual
theorem entT_len24 : ∀ (t : Nd) (n : Nat), okT t n = true → ∀ e ∈ entT t, e.1.length ≤ n
  | .node s rs ks, n, h, e, he => by
    obtain ⟨g1, g2, g3, g4, g5⟩ := okT_iff.1 h
    simp only [Nd.lab_node, Nd.rows_node, Nd.kids_node] at g2 g5
    rw [entT] at he
    rcases List.mem_append.1 he with he | he
    · split at he
      · cases he
      · simp only [List.mem_singleton] at he; subst he; exact g2
    · obtain ⟨d, hd, rfl⟩ := List.mem_map.1 he
      have := entL_len24 ks _ g5 d hd
      simp only [List.length_append]; omega
theorem entL_len24 : ∀ (l : List Nd) (n : Nat), kidsOk l n → ∀ e ∈ entL l, e.1.length ≤ n
  | [], _, _, e, he => by simp [entL] at he
  | t :: r, n, h, e, he => by
    rw [entL] at he
    rcases List.mem_append.1 he with he | he
    · exact entT_len24 t n (h.1 t (by simp)) e he
    · exact entL_len24 r n (kidsOk_sub h (List.sublist_cons_self _ _)) e he
end
theorem gd_ent {t : Nd} (h : okR t = true) : Gd (entR t) :=
  have hk := (okR_iff.1 h).2.2
  ⟨entR_rise h, entL_ne_nil hk, entL_ne _, entL_len24 _ _ hk, entL_right _ _ hk⟩
theorem entP_R {t : Nd} (h : okR t = true) : entP t = entR t := by rw [entP, h]; rfl
theorem gd_entP (t : Nd) : Gd (entP t) := by
  rw [entP]
  cases h : okR t with
  | false => exact Gd.nil
  | true => exact gd_ent h
theorem getR_P (t : Nd) (q : Bys) : getR t q = look (entP t) q := by
  rw [getR_look, entP]
  cases okR t <;> rfl
def bad3 (a b c : List Row) : Bool := decide (b ≠ c ∧ a ≠ c ∧ a ≠ b)
def met3 (a b c : List Row) : List Row := if b = c ∨ a = c then b else c
def badS (s : Sd) : Bool := bad3 s.a s.b s.c
def metS (s : Sd) : List Row := met3 s.a s.b s.c
def gM (s : Sd) : Option (List Row) := if badS s = true then none else some (metS s)
def nd0 : Nd := .node [] [] []
theorem nd0_ok : okR nd0 = true := rfl
def putsF (g : Sd → Option (List Row)) : Nd → List Sd → Nd
  | t, [] => t
  | t, s :: r => putsF g (match g s with | some l => putR t s.p l | none => t) r
def mkE (g : Sd → Option (List Row)) : List Sd → List Ent
  | [] => []
  | s :: r => (match g s with | some (a :: l) => [(s.p, a :: l)] | _ => []) ++ mkE g r
theorem mkE_look {g : Sd → Option (List Row)} {S : List Sd} {q : List UInt8} {v : List Row} (h1 : ∀ s ∈ S, s.p = q → g s = some v ∨ (g s = none ∧ v = [])) (h2 : v ≠ [] → ∃ s ∈ S, s.p = q) : look (mkE g S) q = v := by
  induction S with
  | nil =>
    by_cases c : v = []
    · rw [c]; rfl
    · obtain ⟨s, hs, _⟩ := h2 c; cases hs
  | cons s r ih =>
    rw [mkE]
    by_cases c : s.p = q
    · rcases h1 s (by simp) c with k | ⟨k, rfl⟩
      · rw [k]
        cases v with
        | nil => exact ih (fun t ht => h1 t (by simp [ht])) (fun h => absurd rfl h)
        | cons a l => simp [look, c]
      · rw [k]; exact ih (fun t ht => h1 t (by simp [ht])) (fun h => absurd rfl h)
    · have hl : look (mkE g r) q = v := ih (fun t ht => h1 t (by simp [ht])) fun h => by
        obtain ⟨t, ht, hp⟩ := h2 h
        rcases List.mem_cons.1 ht with rfl | ht
        · exact absurd hp c
        · exact ⟨t, ht, hp⟩
      split
      · simp only [List.singleton_append, look, if_neg c]; exact hl
      · exact hl
theorem putsF_ent {g : Sd → Option (List Row)} : ∀ {S : List Sd} {t : Nd}, okR t = true → (S.Pairwise fun s u => Op.bytesLess s.p u.p = true) → (∀ s ∈ S, s.p ≠ [] ∧ s.p.length ≤ 24) → (∀ s ∈ S, ∀ l, g s = some l → right l = true) →
    (∀ e ∈ entR t, ∀ s ∈ S, Op.bytesLess e.1 s.p = true) → okR (putsF g t S) = true ∧ entR (putsF g t S) = entR t ++ mkE g S
  | [], t, h, _, _, _, _ => ⟨h, by simp [putsF, mkE]⟩
  | s :: r, t, h, hr, hp, hg, hl => by
    rw [List.pairwise_cons] at hr
    rw [putsF, mkE]
    have go : ∀ {u : Nd} {X : List Ent}, okR u = true → entR u = entR t ++ X → (∀ e ∈ X, e.1 = s.p) → okR (putsF g u r) = true ∧ entR (putsF g u r) = entR t ++ (X ++ mkE g r) := fun {u X} hu he hx => by
      have := putsF_ent (g := g) (S := r) hu hr.2 (fun a ha => hp a (by simp [ha])) (fun a ha => hg a (by simp [ha])) (fun e hee a ha => by
        rw [he] at hee
        rcases List.mem_append.1 hee with hee | hee
        · exact hl e hee a (by simp [ha])
        · rw [hx e hee]; exact hr.1 a ha)
      rw [he, List.append_assoc] at this; exact this
    cases hgs : g s with
    | none => exact go (X := []) h (by simp) (by simp)
    | some l =>
      obtain ⟨k1, k2⟩ := putR_ok h (hp s (by simp)).1 (hp s (by simp)).2 (hg s (by simp) l hgs)
      have k3 : entR (putR t s.p l) = entR t ++ (if l = [] then [] else [(s.p, l)]) := by
        refine k2.trans ?_
        have := insE_lt (A := entR t) (l := []) (p := s.p) (r := l) fun e he => hl e he s (by simp)
        rw [List.append_nil] at this
        exact this
      cases l with
      | nil => exact go (X := []) k1 (by simpa using k3) (by simp)
      | cons a l => exact go (X := [(s.p, a :: l)]) k1 (by simpa using k3) (by simp)
end Go.Proofs.YtgaabjmbnomimaaDoor
namespace Go.Proofs.YtgaabjmbnomimaaDoor
open Go Go.Ev
theorem leastP_or (p : Bys) (x : List Ent) : leastP p x = p ∨ ∃ e l, x = e :: l ∧ leastP p x = e.1 := by
  cases x with
  | nil => exact .inl rfl
  | cons e l =>
    cases p with
    | nil => exact .inr ⟨e, l, rfl, rfl⟩
    | cons b q =>
      simp only [leastP]
      cases Op.bytesLess e.1 (b :: q) with
      | true => exact .inr ⟨e, l, rfl, rfl⟩
      | false => exact .inl rfl
theorem least3_or (x y z : List Ent) : least3 x y z = [] ∨ ∃ e l, (x = e :: l ∨ y = e :: l ∨ z = e :: l) ∧ least3 x y z = e.1 := by
  unfold least3
  rcases leastP_or (leastP (leastP [] x) y) z with h | ⟨e, l, h1, h2⟩
  · rw [h]
    rcases leastP_or (leastP [] x) y with h | ⟨e, l, h1, h2⟩
    · rw [h]
      rcases leastP_or [] x with h | ⟨e, l, h1, h2⟩
      · exact .inl h
      · exact .inr ⟨e, l, .inl h1, h2⟩
    · exact .inr ⟨e, l, .inr (.inl h1), h2⟩
  · exact .inr ⟨e, l, .inr (.inr h1), h2⟩
theorem tailP_lt {x : List Ent} {e : Ent} {l : List Ent} (h : x = e :: l) : (tailP e.1 x).length < x.length := by
  subst h; simp [tailP]
theorem tails_lt {x y z : List Ent} (h : least3 x y z ≠ []) : (tailP (least3 x y z) x).length + (tailP (least3 x y z) y).length + (tailP (least3 x y z) z).length < x.length + y.length + z.length := by
  have l1 := (tailP_sub (least3 x y z) x).length_le
  have l2 := (tailP_sub (least3 x y z) y).length_le
  have l3 := (tailP_sub (least3 x y z) z).length_le
  rcases least3_or x y z with k | ⟨e, l, k | k | k, hp⟩
  · exact absurd k h
  · have := tailP_lt k; rw [← hp] at this; omega
  · have := tailP_lt k; rw [← hp] at this; omega
  · have := tailP_lt k; rw [← hp] at this; omega
structure PreU (es : List (List V)) (u : List (List V)) (b : Bool) (m : Nat) (i : List Ent × List Ent × List Ent × List (List V)) : Prop where
  rx : Rne i.1
  ry : Rne i.2.1
  rz : Rne i.2.2.1
  at_ : ∃ c f, i.1.length + i.2.1.length + i.2.2.1.length < f ∧ es.drop c = (sidesF f i.1 i.2.1 i.2.2.1).map encS ∧ c ≤ es.length ∧ At u b m c i.2.2.2
theorem rne_tail {p : List UInt8} {x : List Ent} (h : Rne x) : Rne (tailP p x) := fun e he => h e ((tailP_sub p x).subset he)
theorem eqb_encS (p : Bys) (a b c : List Row) : eqbV [V.agg [V.c (C.str p), V.c (C.sl 5 (rcN a) (rcT a) (rows a)), V.c (C.sl 5 (rcN b) (rcT b) (rows b)), V.c (C.sl 5 (rcN c) (rcT c) (rows c))]] (encS ⟨p, a, b, c⟩) = true := by
  cases a <;> cases b <;> cases c <;> simp [encS, rowsV, rcN, rcT, rows, eqbV, V.eqb, eqb_refl]
theorem loopU {es u : List (List V)} {b : Bool} {m : Nat} (hu : u = es.take m) (hm : m ≤ es.length) (hb : b = false → m = es.length) (kn : OBo) (kt : Bool) (xsh : LLC) (n0 : OBo) (t0 : Bool) (n1 : OBo) (t1 : Bool) (n2 : OBo) (t2 : Bool)
    (x y z : List Ent) (r : List (List V)) (hp : PreU es u b m (x, y, z, r)) : p137.fd (Tr.ls 1 (u137 kn kt xsh r b n0 t0 (ents x) n1 t1 (ents y) n2 t2 (ents z))) = some (.out [] [O.box [V.c (C.sl 3 kn kt xsh)], O.yo [] b]) := by
  refine fd_post hct137 (by kernel_rfl) rfl (loops_post (p := p137) hct137 (b := bU137) (ι := List Ent × List Ent × List Ent × List (List V)) (fun i => u137 kn kt xsh i.2.2.2 b n0 t0 (ents i.1) n1 t1 (ents i.2.1) n2 t2 (ents i.2.2.1)) (PreU es u b m) (fun i => i.1.length + i.2.1.length + i.2.2.1.length) _ ?_ (x, y, z, r) hp)
  rintro ⟨x, y, z, r⟩ ⟨rx, ry, rz, c, f, hf, hd, hc, hat⟩
  dsimp only at rx ry rz hf hd hat
  obtain ⟨f, rfl⟩ : ∃ k, f = k + 1 := ⟨f - 1, by omega⟩
  obtain ⟨_, rfl, hA⟩ := loopA kn kt xsh r b n0 t0 x n1 t1 y n2 t2 z
  by_cases hl : least3 x y z = []
  · rw [sidesF_end f hl, List.map_nil] at hd
    have hce : c = es.length := by
      have := congrArg List.length hd
      simp only [List.length_drop, List.length_nil] at this; omega
    obtain ⟨rfl, rfl⟩ := hat.end_ hu hm hce
    refine .inr ⟨xE137 kn kt xsh [] false n0 t0 (ents x) n1 t1 (ents y) n2 t2 (ents z) [], by simp, by rw [k137e, fd_leaf], ?_⟩
    dsimp only
    rw [t137u]
    refine ld_post hct137 (by kernel_rfl) rfl ⟨_, ?_, hA⟩
    rw [hl, t137v, ld_br, ld_leaf]; rfl
  · rw [sidesF_step f rfl hl, List.map_cons] at hd
    have hlt := tails_lt hl
    have hcl : c < es.length := by
      rcases Nat.lt_or_ge c es.length with h | h
      · exact h
      · rw [List.drop_of_length_le h] at hd; cases hd
    have hd2 := hd
    rw [List.drop_eq_getElem_cons hcl] at hd2
    simp only [List.cons.injEq] at hd2
    obtain ⟨_, hr1, _, hr3⟩ := hat.next hu hm hb hcl
    rw [hd2.1] at hr1
    obtain ⟨_, rfl, hB⟩ := loopB kn kt xsh r b n0 t0 x n1 t1 y n2 t2 z (least3 x y z) rx ry rz
    have hyo : yoHd r [V.agg [V.c (C.str (least3 x y z)), V.c (C.sl 5 (rcN (headP (least3 x y z) x)) (rcT (headP (least3 x y z) x)) (rows (headP (least3 x y z) x))), V.c (C.sl 5 (rcN (headP (least3 x y z) y)) (rcT (headP (least3 x y z) y)) (rows (headP (least3 x y z) y))), V.c (C.sl 5 (rcN (headP (least3 x y z) z)) (rcT (headP (least3 x y z) z)) (rows (headP (least3 x y z) z)))]] = true := by
      rw [hr1]; exact eqb_encS _ _ _ _
    have hne : (least3 x y z == []) = false := by
      cases h : least3 x y z with
      | nil => exact absurd h hl
      | cons a s => rfl
    have go : p137.ld bU137 (p137.lts bU137 (u137 kn kt xsh r b n0 t0 (ents x) n1 t1 (ents y) n2 t2 (ents z))) = (if (!yoAns r b) = true then some (R.x (x137wx0 kn kt xsh r b (least3 x y z) (rcN (headP (least3 x y z) x)) (rcT (headP (least3 x y z) x)) (rows (headP (least3 x y z) x)) (rcN (headP (least3 x y z) y)) (rcT (headP (least3 x y z) y)) (rows (headP (least3 x y z) y)) (rcN (headP (least3 x y z) z)) (rcT (headP (least3 x y z) z)) (rows (headP (least3 x y z) z)) ([[C.sl 2 n0 t0 (ents (tailP (least3 x y z) x))], [C.sl 2 n1 t1 (ents (tailP (least3 x y z) y))], [C.sl 2 n2 t2 (ents (tailP (least3 x y z) z))]])))
        else some (R.s (u137 kn kt xsh r.tail b n0 t0 (ents (tailP (least3 x y z) x)) n1 t1 (ents (tailP (least3 x y z) y)) n2 t2 (ents (tailP (least3 x y z) z))))) := by
      rw [t137u]
      refine ld_post hct137 (by kernel_rfl) (by split <;> rfl) ⟨_, ?_, hA⟩
      rw [t137v, ld_br, hne, if_neg (by simp)]
      refine ld_post hct137 (by kernel_rfl) (by split <;> rfl) ⟨_, ?_, hB⟩
      rw [t137w, ld_chk', if_pos hyo, ld_br]
      split <;> rfl
    rcases hr3 with ⟨h1, h2⟩ | ⟨h1, h2, h3⟩
    · refine .inl ⟨(tailP (least3 x y z) x, tailP (least3 x y z) y, tailP (least3 x y z) z, r.tail), ⟨rne_tail rx, rne_tail ry, rne_tail rz, c + 1, f, by dsimp only; omega, hd2.2, hcl, h2⟩, hlt, ?_⟩
      dsimp only
      rw [go, h1]; rfl
    · refine .inr ⟨x137wx0 kn kt xsh r b (least3 x y z) (rcN (headP (least3 x y z) x)) (rcT (headP (least3 x y z) x)) (rows (headP (least3 x y z) x)) (rcN (headP (least3 x y z) y)) (rcT (headP (least3 x y z) y)) (rows (headP (least3 x y z) y)) (rcN (headP (least3 x y z) z)) (rcT (headP (least3 x y z) z)) (rows (headP (least3 x y z) z)) ([[C.sl 2 n0 t0 (ents (tailP (least3 x y z) x))], [C.sl 2 n1 t1 (ents (tailP (least3 x y z) y))], [C.sl 2 n2 t2 (ents (tailP (least3 x y z) z))]]), by simp, ?_, by dsimp only; rw [go, h1]; rfl⟩
      have : p137.fkx 1 (x137wx0 kn kt xsh r b (least3 x y z) (rcN (headP (least3 x y z) x)) (rcT (headP (least3 x y z) x)) (rows (headP (least3 x y z) x)) (rcN (headP (least3 x y z) y)) (rcT (headP (least3 x y z) y)) (rows (headP (least3 x y z) y)) (rcN (headP (least3 x y z) z)) (rcT (headP (least3 x y z) z)) (rows (headP (least3 x y z) z)) ([[C.sl 2 n0 t0 (ents (tailP (least3 x y z) x))], [C.sl 2 n1 t1 (ents (tailP (least3 x y z) y))], [C.sl 2 n2 t2 (ents (tailP (least3 x y z) z))]])) =
          Tr.leaf (R.out [] [O.box [V.c (C.sl 3 kn kt xsh)], O.yo r.tail b]) := by kernel_rfl
      rw [this, fd_leaf, h2]
def slE (t : Nd) : List C := [C.sl 2 none false (ents (entP t))]
def sl0 : List C := [C.sl 2 (some true) true []]
def ysK (ts : List Nd) (k : Nat) : List (List C) := (ts.take k).map slE ++ List.replicate (3 - k) sl0
theorem ysK_set (ts : List Nd) (k : Nat) (hk : k < ts.length) (h3 : k < 3) : (ysK ts k).set k (slE ts[k]) = ysK ts (k + 1) := by
  unfold ysK
  rw [List.take_succ_eq_append_getElem hk]
  obtain ⟨j, hj⟩ : ∃ j, 3 - k = j + 1 := ⟨2 - k, by omega⟩
  have hj2 : 3 - (k + 1) = j := by omega
  rw [hj, hj2, List.replicate_succ, List.map_append, List.append_assoc]
  rw [List.set_append_right _ _ (by simp; omega)]
  have : k - ((ts.take k).map slE).length = 0 := by simp; omega
  rw [this]; rfl
theorem ysK_len (ts : List Nd) (k : Nat) (hk : k ≤ ts.length) (h3 : k ≤ 3) : (ysK ts k).length = 3 := by
  unfold ysK; simp; omega
theorem loop137 (kn : OBo) (kt : Bool) (ts : List Nd) (r : List (List V)) (q : Bool) (h3 : ts.length ≤ 3) (hn : ∀ t ∈ ts, (entL t.kids).length < 1000000000) (R0 : R)
    (h : p137.fd (Tr.ls 1 (s137_1 kn kt r q (encL ts) (ysK ts ts.length))) = some R0) :
    p137.fd (Tr.ls 0 (s137_0 kn kt r q (encL ts) ts.length 0 (encL ts) (ysK ts 0))) = some R0 := by
  refine fd_post hct137 (by kernel_rfl) rfl (list_post (p := p137) hct137 (b := b137_0) ts.length (fun k (_ : Unit) => s137_0 kn kt r q (encL ts) ts.length k (encL ts) (ysK ts k)) (fun _ _ => True) _ ?_ ?_ 0 (Nat.zero_le _) () trivial)
  · intro k _ hk _
    refine .inl ⟨(), trivial, ?_⟩
    have hn' := hn _ (List.getElem_mem hk)
    have hyl := ysK_len ts k (by omega) (by omega)
    have hkl : (k : Int) < 3 := by omega
    have hset := ysK_set ts k hk (by omega)
    have hyk : ((ysK ts k).getD k []).length = 1 := by
      have e : (ysK ts k).getD k [] = sl0 := by
        unfold ysK
        rw [List.getD_eq_getElem?_getD, List.getElem?_append_right (by simp; omega)]
        have : k - ((ts.take k).map slE).length = 0 := by simp; omega
        rw [this]
        obtain ⟨j, hj⟩ : ∃ j, 3 - k = j + 1 := ⟨2 - k, by omega⟩
        rw [hj]; rfl
      rw [e]; rfl
    rw [t137_0]
    have h3k : k < 3 := by omega
    simp only [nd_ok, nd_lab, nd_rows, nd_kids, encL_length, isL_enc, decL_enc, wrap_hd, hd_pos, ld_br, ld_chk', ld_leaf, fd_br, fd_chk', fd_leaf, decide_true, decide_eq_true_eq, if_true, Int.toNat_natCast, Int.natCast_nonneg, Int.ofNat_lt, Int.ofNat_le, Bool.false_eq_true, if_false, bne_iff_ne, beq_iff_eq, ne_eq, not_true_eq_false, not_false_eq_true, Bool.not_eq_true', decide_eq_false_iff_not, reduceCtorEq, rows_length, pcs_length, er_ok, er_ok', ep_ok, ep_ok', dr_er, dp_ep, isRows_rows, isPcs_pcs, toRows_rows, toPcs_pcs, rows_take, rows_drop, pcs_take, pcs_drop, rows_append, pcs_append, ints_length, isInts_ints, toInts_ints, ei_i, ei_ok, mk_headD, ints_take, ints_drop, ints_append, ints_snoc, ints_snoc', List.take_length, Nat.zero_add, Nat.le_refl, er_a, er_b, er_k, er_n, er_s, er_v, ep_a, ep_b, ep_hk, ep_hn, ep_hs, ep_wk, ep_wn, ep_ws, hk, encL_getD hk, hn', hkl, h3k, hyl, hyk]
    rw [← hset, wrap_succ (by omega)]
    rfl
  · intro _ _
    refine ⟨x137_0x0 kn kt r q (encL ts) ts.length ts.length (encL ts) (ysK ts ts.length), by simp, by rw [k137_0x0]; exact h, ?_⟩
    rw [t137_0]
    simp only [nd_ok, nd_lab, nd_rows, nd_kids, encL_length, isL_enc, decL_enc, wrap_hd, hd_pos, ld_br, ld_chk', ld_leaf, fd_br, fd_chk', fd_leaf, decide_true, decide_eq_true_eq, if_true, Int.toNat_natCast, Int.natCast_nonneg, Int.ofNat_lt, Int.ofNat_le, Bool.false_eq_true, if_false, bne_iff_ne, beq_iff_eq, ne_eq, not_true_eq_false, not_false_eq_true, Bool.not_eq_true', decide_eq_false_iff_not, reduceCtorEq, rows_length, pcs_length, er_ok, er_ok', ep_ok, ep_ok', dr_er, dp_ep, isRows_rows, isPcs_pcs, toRows_rows, toPcs_pcs, rows_take, rows_drop, pcs_take, pcs_drop, rows_append, pcs_append, ints_length, isInts_ints, toInts_ints, ei_i, ei_ok, mk_headD, ints_take, ints_drop, ints_append, ints_snoc, ints_snoc', List.take_length, Nat.zero_add, Nat.le_refl, er_a, er_b, er_k, er_n, er_s, er_v, ep_a, ep_b, ep_hk, ep_hn, ep_hs, ep_wk, ep_wn, ep_ws, Int.lt_irrefl]
def S3 (a b c : Nd) : List Sd := sidesP (entP a) (entP b) (entP c)
theorem sq137_3 (kn : OBo) (kt : Bool) (a b c : Nd) : E.seq 137 [.yl 1, .ptr 0 0 0 0] [.box [.c (.sl 3 kn kt (encL [a, b, c]))]] = some ((S3 a b c).map encS) := by
  have : sq 137 [.yl 1, .ptr 0 0 0 0] [.box [.c (.sl 3 kn kt (encL [a, b, c]))]] = some ((S3 a b c).map encS) := by
    simp only [sq, sq137, decL_enc]; rfl
  exact this
theorem f137_3 (kn : OBo) (kt : Bool) (a b c : Nd) (ha : (entL a.kids).length < 1000000000) (hb : (entL b.kids).length < 1000000000) (hc : (entL c.kids).length < 1000000000) (u : List (List V)) (q : Bool) (hw : Want ((S3 a b c).map encS) u q) :
    call E 137 [.yl 1, .ptr 0 0 0 0] ([.box [.c (.sl 3 kn kt (encL [a, b, c]))]] ++ [.yo u q]) = some ([], [.box [.c (.sl 3 kn kt (encL [a, b, c]))], .yo [] q]) := by
  refine call_of (E := E) (sh := sh) (ct := ctOf [(34, s34)]) (na := 2) (m := 2) hct137 rfl rfl rfl rfl rfl rfl ?_
  have ht := t137 kn kt a.enc b.enc c.enc u q
  show p137.fd (p137.ft [.yl 1, .ptr 0 0 0 0] [.box [.c (.sl 3 kn kt [a.enc, b.enc, c.enc])], .yo u q]) = _
  rw [ht]
  obtain ⟨m, hu, hm0, hm1, hm2⟩ := want_take hw
  refine loop137 kn kt [a, b, c] u q (by simp) (by simpa using ⟨ha, hb, hc⟩) _ ?_
  exact loopU hu hm0 hm1 kn kt (encL [a, b, c]) none false none false none false (entP a) (entP b) (entP c) u ⟨(gd_entP a).rne, (gd_entP b).rne, (gd_entP c).rne, 0, _, Nat.lt_succ_self _, rfl, Nat.zero_le _, rfl, Nat.zero_le _, fun h => hm2 h⟩
end Go.Proofs.YtgaabjmbnomimaaDoor
namespace Go.Proofs.YtgaabjmbnomimaaDoor
open Go Go.Ev
theorem str_ext : ∀ {x y : List (List UInt8)}, (x.Pairwise fun a b => Op.bytesLess a b = true) → (y.Pairwise fun a b => Op.bytesLess a b = true) → (∀ q, q ∈ x ↔ q ∈ y) → x = y
  | [], [], _, _, _ => rfl
  | [], b :: y, _, _, h => by have := (h b).2 (by simp); cases this
  | a :: x, [], _, _, h => by have := (h a).1 (by simp); cases this
  | a :: x, b :: y, hx, hy, h => by
    rw [List.pairwise_cons] at hx hy
    have e : a = b := by
      rcases List.mem_cons.1 ((h a).1 (by simp)) with k | k
      · exact k
      · rcases List.mem_cons.1 ((h b).2 (by simp)) with k2 | k2
        · exact k2.symm
        · have h1 := hy.1 a k
          rw [bl_asymm (hx.1 b k2)] at h1; cases h1
    subst e
    rw [str_ext hx.2 hy.2 fun q => ?_]
    constructor
    · intro hq
      rcases List.mem_cons.1 ((h q).1 (by simp [hq])) with k | k
      · subst k; exact absurd rfl (bl_ne (hx.1 _ hq))
      · exact k
    · intro hq
      rcases List.mem_cons.1 ((h q).2 (by simp [hq])) with k | k
      · subst k; exact absurd rfl (bl_ne (hy.1 _ hq))
      · exact k
section
variable {x y z : List Ent} {S : List Sd} (hs : SP x y z S) (hx : Gd x) (hy : Gd y) (hz : Gd z)
include hs
theorem SP.ex {q : List UInt8} (h : look x q ≠ [] ∨ look y q ≠ [] ∨ look z q ≠ []) : ∃ s ∈ S, s.p = q := by
  rcases h with h | h | h
  · obtain ⟨e, he, hp⟩ := look_ex h; obtain ⟨s, h1, h2⟩ := hs.all e (.inl he); exact ⟨s, h1, h2.trans hp⟩
  · obtain ⟨e, he, hp⟩ := look_ex h; obtain ⟨s, h1, h2⟩ := hs.all e (.inr (.inl he)); exact ⟨s, h1, h2.trans hp⟩
  · obtain ⟨e, he, hp⟩ := look_ex h; obtain ⟨s, h1, h2⟩ := hs.all e (.inr (.inr he)); exact ⟨s, h1, h2.trans hp⟩
theorem SP.bad {s : Sd} (h : s ∈ S) : badS s = bad3 (look x s.p) (look y s.p) (look z s.p) := by rw [badS, hs.a s h, hs.b s h, hs.c s h]
theorem SP.met {s : Sd} (h : s ∈ S) : metS s = met3 (look x s.p) (look y s.p) (look z s.p) := by rw [metS, hs.a s h, hs.b s h, hs.c s h]
theorem look_merge (q : Bys) : look (mkE gM S) q = if bad3 (look x q) (look y q) (look z q) = true then [] else met3 (look x q) (look y q) (look z q) := by
  refine mkE_look (fun s h hp => ?_) fun h => ?_
  · rw [gM, hs.bad h, hs.met h, hp]
    split
    · exact .inr ⟨rfl, rfl⟩
    · exact .inl rfl
  · refine hs.ex ?_
    split at h
    · exact absurd rfl h
    · rw [met3] at h
      split at h
      · exact .inr (.inl h)
      · exact .inr (.inr h)
omit hs in
theorem look_right (hx : Gd x) (q : Bys) : right (look x q) = true := by
  by_cases c : look x q = []
  · rw [c]; rfl
  · obtain ⟨e, he, hp⟩ := look_ex c
    rw [← hp, look_in hx.rise he]; exact hx.right e he
include hx hy hz
theorem SP.path {s : Sd} (h : s ∈ S) : s.p ≠ [] ∧ s.p.length ≤ 24 := by
  refine ⟨hs.ne s h, ?_⟩
  obtain ⟨e, he, hp⟩ := hs.mem s h
  rw [← hp]
  rcases he with he | he | he
  · exact hx.len e he
  · exact hy.len e he
  · exact hz.len e he
theorem SP.gright {s : Sd} (h : s ∈ S) {l : List Row} (k : gM s = some l) : right l = true := by
  rw [gM] at k
  split at k
  · cases k
  · simp only [Option.some.injEq] at k
    rw [← k, hs.met h, met3]
    split
    · exact look_right hy _
    · exact look_right hz _
theorem merge_ok : okR (putsF gM nd0 S) = true ∧ entR (putsF gM nd0 S) = mkE gM S := by
  have := putsF_ent (g := gM) (S := S) (t := nd0) nd0_ok hs.rise (fun s h => hs.path hx hy hz h) (fun s h l k => hs.gright hx hy hz h k) (by intro e he; cases he)
  exact ⟨this.1, this.2⟩
end
def mergeT (a b c : Nd) : Nd := putsF gM nd0 (sidesP (entP a) (entP b) (entP c))
def badL (S : List Sd) : List (List UInt8) := (S.filter badS).map Sd.p
def badT (a b c : Nd) : List (List UInt8) := badL (sidesP (entP a) (entP b) (entP c))
theorem spT (a b c : Nd) : SP (entP a) (entP b) (entP c) (sidesP (entP a) (entP b) (entP c)) := sidesP_spec (gd_entP a) (gd_entP b) (gd_entP c)
theorem mergeT_ok (a b c : Nd) : okR (mergeT a b c) = true := (merge_ok (spT a b c) (gd_entP a) (gd_entP b) (gd_entP c)).1
theorem mergeT_get (a b c : Nd) (q : Bys) : getR (mergeT a b c) q = if bad3 (getR a q) (getR b q) (getR c q) = true then [] else met3 (getR a q) (getR b q) (getR c q) := by
  obtain ⟨h1, h2⟩ := merge_ok (spT a b c) (gd_entP a) (gd_entP b) (gd_entP c)
  rw [getR_P, getR_P, getR_P, getR_P]
  refine Eq.trans ?_ (look_merge (spT a b c) q)
  rw [← h2, ← entP_R h1]; rfl
theorem badL_rise {S : List Sd} (h : S.Pairwise fun s t => Op.bytesLess s.p t.p = true) (f : Sd → Bool) : ((S.filter f).map Sd.p).Pairwise fun a b => Op.bytesLess a b = true := by
  rw [List.pairwise_map]; exact h.sublist List.filter_sublist
theorem badT_mem (a b c : Nd) (q : Bys) : q ∈ badT a b c ↔ bad3 (getR a q) (getR b q) (getR c q) = true := by
  have hs := spT a b c
  rw [getR_P, getR_P, getR_P]
  constructor
  · intro h
    obtain ⟨s, h1, rfl⟩ := List.mem_map.1 h
    obtain ⟨h1, h2⟩ := List.mem_filter.1 h1
    rw [hs.bad h1] at h2; exact h2
  · intro h
    have hne : look (entP a) q ≠ [] ∨ look (entP b) q ≠ [] ∨ look (entP c) q ≠ [] := by
      by_cases c1 : look (entP a) q = []
      · by_cases c2 : look (entP b) q = []
        · rw [c1, c2] at h; simp [bad3] at h
        · exact .inr (.inl c2)
      · exact .inl c1
    obtain ⟨s, h1, rfl⟩ := hs.ex hne
    exact List.mem_map_of_mem (List.mem_filter.2 ⟨h1, by rw [hs.bad h1]; exact h⟩)
theorem badT_rise (a b c : Nd) : (badT a b c).Pairwise fun p q => Op.bytesLess p q = true := badL_rise (spT a b c).rise badS
end Go.Proofs.YtgaabjmbnomimaaDoor
namespace Go.Proofs.YtgaabjmbnomimaaDoor
open Go Go.Ev
theorem f138a (p : Bys) (n0 : OBo) (t0 : Bool) (x0 : LLC) (n1 : OBo) (t1 : Bool) (b : List Row) (n2 : OBo) (t2 : Bool) (c : List Row) (hb : b.length ≤ 9223372036854775807) :
    call E 138 [V.i 1, V.i 2, .ptr 0 0 0 0] [.box [.c (.str p), .c (.sl 5 n0 t0 x0), .c (.sl 5 n1 t1 (rows b)), .c (.sl 5 n2 t2 (rows c))]] = some ([V.b (decide (b = c))], [.box [.c (.str p), .c (.sl 5 n0 t0 x0), .c (.sl 5 n1 t1 (rows b)), .c (.sl 5 n2 t2 (rows c))]]) := by
  refine call_of (E := E) (sh := sh) (ct := ctOf [(98, s98)]) (na := 3) (m := 1) (ctOf_cons s98_ok ctOf_nil) rfl rfl rfl rfl rfl rfl ?_
  rw [t138a]
  simp only [ld_br, ld_chk', ld_leaf, fd_br, fd_chk', fd_leaf, decide_true, decide_eq_true_eq, if_true, Int.toNat_natCast, Int.natCast_nonneg, Int.ofNat_lt, Int.ofNat_le, Bool.false_eq_true, if_false, bne_iff_ne, beq_iff_eq, ne_eq, not_true_eq_false, not_false_eq_true, Bool.not_eq_true', decide_eq_false_iff_not, reduceCtorEq, rows_length, pcs_length, er_ok, er_ok', ep_ok, ep_ok', dr_er, dp_ep, isRows_rows, isPcs_pcs, toRows_rows, toPcs_pcs, rows_take, rows_drop, pcs_take, pcs_drop, rows_append, pcs_append, ints_length, isInts_ints, toInts_ints, ei_i, ei_ok, mk_headD, ints_take, ints_drop, ints_append, ints_snoc, ints_snoc', List.take_length, Nat.zero_add, Nat.le_refl, er_a, er_b, er_k, er_n, er_s, er_v, ep_a, ep_b, ep_hk, ep_hn, ep_hs, ep_wk, ep_wn, ep_ws, hb]
theorem f138b (p : Bys) (n0 : OBo) (t0 : Bool) (a : List Row) (n1 : OBo) (t1 : Bool) (x1 : LLC) (n2 : OBo) (t2 : Bool) (c : List Row) (hb : a.length ≤ 9223372036854775807) :
    call E 138 [V.i 0, V.i 2, .ptr 0 0 0 0] [.box [.c (.str p), .c (.sl 5 n0 t0 (rows a)), .c (.sl 5 n1 t1 x1), .c (.sl 5 n2 t2 (rows c))]] = some ([V.b (decide (a = c))], [.box [.c (.str p), .c (.sl 5 n0 t0 (rows a)), .c (.sl 5 n1 t1 x1), .c (.sl 5 n2 t2 (rows c))]]) := by
  refine call_of (E := E) (sh := sh) (ct := ctOf [(98, s98)]) (na := 3) (m := 1) (ctOf_cons s98_ok ctOf_nil) rfl rfl rfl rfl rfl rfl ?_
  rw [t138b]
  simp only [ld_br, ld_chk', ld_leaf, fd_br, fd_chk', fd_leaf, decide_true, decide_eq_true_eq, if_true, Int.toNat_natCast, Int.natCast_nonneg, Int.ofNat_lt, Int.ofNat_le, Bool.false_eq_true, if_false, bne_iff_ne, beq_iff_eq, ne_eq, not_true_eq_false, not_false_eq_true, Bool.not_eq_true', decide_eq_false_iff_not, reduceCtorEq, rows_length, pcs_length, er_ok, er_ok', ep_ok, ep_ok', dr_er, dp_ep, isRows_rows, isPcs_pcs, toRows_rows, toPcs_pcs, rows_take, rows_drop, pcs_take, pcs_drop, rows_append, pcs_append, ints_length, isInts_ints, toInts_ints, ei_i, ei_ok, mk_headD, ints_take, ints_drop, ints_append, ints_snoc, ints_snoc', List.take_length, Nat.zero_add, Nat.le_refl, er_a, er_b, er_k, er_n, er_s, er_v, ep_a, ep_b, ep_hk, ep_hn, ep_hs, ep_wk, ep_wn, ep_ws, hb]
theorem f138c (p : Bys) (n0 : OBo) (t0 : Bool) (a : List Row) (n1 : OBo) (t1 : Bool) (b : List Row) (n2 : OBo) (t2 : Bool) (x2 : LLC) (hb : a.length ≤ 9223372036854775807) :
    call E 138 [V.i 0, V.i 1, .ptr 0 0 0 0] [.box [.c (.str p), .c (.sl 5 n0 t0 (rows a)), .c (.sl 5 n1 t1 (rows b)), .c (.sl 5 n2 t2 x2)]] = some ([V.b (decide (a = b))], [.box [.c (.str p), .c (.sl 5 n0 t0 (rows a)), .c (.sl 5 n1 t1 (rows b)), .c (.sl 5 n2 t2 x2)]]) := by
  refine call_of (E := E) (sh := sh) (ct := ctOf [(98, s98)]) (na := 3) (m := 1) (ctOf_cons s98_ok ctOf_nil) rfl rfl rfl rfl rfl rfl ?_
  rw [t138c]
  simp only [ld_br, ld_chk', ld_leaf, fd_br, fd_chk', fd_leaf, decide_true, decide_eq_true_eq, if_true, Int.toNat_natCast, Int.natCast_nonneg, Int.ofNat_lt, Int.ofNat_le, Bool.false_eq_true, if_false, bne_iff_ne, beq_iff_eq, ne_eq, not_true_eq_false, not_false_eq_true, Bool.not_eq_true', decide_eq_false_iff_not, reduceCtorEq, rows_length, pcs_length, er_ok, er_ok', ep_ok, ep_ok', dr_er, dp_ep, isRows_rows, isPcs_pcs, toRows_rows, toPcs_pcs, rows_take, rows_drop, pcs_take, pcs_drop, rows_append, pcs_append, ints_length, isInts_ints, toInts_ints, ei_i, ei_ok, mk_headD, ints_take, ints_drop, ints_append, ints_snoc, ints_snoc', List.take_length, Nat.zero_add, Nat.le_refl, er_a, er_b, er_k, er_n, er_s, er_v, ep_a, ep_b, ep_hk, ep_hn, ep_hs, ep_wk, ep_wn, ep_ws, hb]
theorem s138_ok : CSpecOk E 138 s138 := by
  intro a h cs vals h' he hc
  unfold s138 at he
  split at he <;> simp only [Option.some.injEq, Prod.mk.injEq, reduceCtorEq] at he
  rename_i i k p n0 t0 x0 n1 t1 x1 n2 t2 x2
  obtain ⟨rfl, rfl, rfl⟩ := he
  simp only [allT, Bool.and_true, Bool.and_eq_true, decide_eq_true_eq] at hc
  obtain ⟨h1, h2, h3, h4, h5, h6⟩ := hc
  obtain ⟨r0, rfl⟩ := rows_ex h2
  obtain ⟨r1, rfl⟩ := rows_ex h3
  obtain ⟨r2, rfl⟩ := rows_ex h4
  rw [rows_length] at h5 h6
  rcases h1 with ⟨rfl, rfl⟩ | ⟨rfl, rfl⟩ | ⟨rfl, rfl⟩
  · have := f138a p n0 t0 (rows r0) n1 t1 r1 n2 t2 r2 h6
    rw [this]; simp [pick3, toRows_rows]
  · have := f138b p n0 t0 r0 n1 t1 (rows r1) n2 t2 r2 h5
    rw [this]; simp [pick3, toRows_rows]
  · have := f138c p n0 t0 r0 n1 t1 r1 n2 t2 (rows r2) h5
    rw [this]; simp [pick3, toRows_rows]
def metR (a b c : List Row) : List Row := if bad3 a b c = true then [] else met3 a b c
theorem f95 (p : Bys) (n0 : OBo) (t0 : Bool) (a : List Row) (n1 : OBo) (t1 : Bool) (b : List Row) (n2 : OBo) (t2 : Bool) (c : List Row) (ha : a.length ≤ 9223372036854775807) (hb : b.length ≤ 9223372036854775807) :
    call E 95 [.agg [.c (.str p), .c (.sl 5 n0 t0 (rows a)), .c (.sl 5 n1 t1 (rows b)), .c (.sl 5 n2 t2 (rows c))]] [] = some ([.c (.sl 5 none false (rows (metR a b c))), V.b (!bad3 a b c)], []) := by
  refine call_of (E := E) (sh := sh) (ct := ctOf [(138, s138)]) (na := 1) (m := 0) (ctOf_cons s138_ok ctOf_nil) rfl rfl rfl rfl rfl rfl ?_
  rw [t95]
  have p1 : pick3 1 (rows a) (rows b) (rows c) = rows b := rfl
  have p2 : pick3 2 (rows a) (rows b) (rows c) = rows c := rfl
  have p0 : pick3 0 (rows a) (rows b) (rows c) = rows a := rfl
  simp only [ld_br, ld_chk', ld_leaf, fd_br, fd_chk', fd_leaf, decide_true, decide_eq_true_eq, if_true, Int.toNat_natCast, Int.natCast_nonneg, Int.ofNat_lt, Int.ofNat_le, Bool.false_eq_true, if_false, bne_iff_ne, beq_iff_eq, ne_eq, not_true_eq_false, not_false_eq_true, Bool.not_eq_true', decide_eq_false_iff_not, reduceCtorEq, rows_length, pcs_length, er_ok, er_ok', ep_ok, ep_ok', dr_er, dp_ep, isRows_rows, isPcs_pcs, toRows_rows, toPcs_pcs, rows_take, rows_drop, pcs_take, pcs_drop, rows_append, pcs_append, ints_length, isInts_ints, toInts_ints, ei_i, ei_ok, mk_headD, ints_take, ints_drop, ints_append, ints_snoc, ints_snoc', List.take_length, Nat.zero_add, Nat.le_refl, er_a, er_b, er_k, er_n, er_s, er_v, ep_a, ep_b, ep_hk, ep_hn, ep_hs, ep_wk, ep_wn, ep_ws, p0, p1, p2, ha, hb]
  unfold metR bad3 met3
  by_cases h1 : b = c
  · simp [h1]
  · by_cases h2 : a = c
    · simp [h1, h2]
    · by_cases h3 : a = b
      · simp [h1, h2, h3]
      · simp [h1, h2, h3, rows]
def s95 : CSpec := fun a h => match a, h with
  | [.agg [.c (.str p), .c (.sl 5 n0 t0 x0), .c (.sl 5 n1 t1 x1), .c (.sl 5 n2 t2 x2)]], [] => some ([isRows x0, isRows x1, isRows x2, decide (x0.length ≤ 9223372036854775807), decide (x1.length ≤ 9223372036854775807)],
      [.c (.sl 5 none false (rows (metR (toRows x0) (toRows x1) (toRows x2)))), V.b (!bad3 (toRows x0) (toRows x1) (toRows x2))], [])
  | _, _ => none
theorem s95_ok : CSpecOk E 95 s95 := by
  intro a h cs vals h' he hc
  unfold s95 at he
  split at he <;> simp only [Option.some.injEq, Prod.mk.injEq, reduceCtorEq] at he
  rename_i p n0 t0 x0 n1 t1 x1 n2 t2 x2
  obtain ⟨rfl, rfl, rfl⟩ := he
  simp only [allT, Bool.and_true, Bool.and_eq_true, decide_eq_true_eq] at hc
  obtain ⟨h1, h2, h3, h4, h5⟩ := hc
  obtain ⟨a, rfl⟩ := rows_ex h1
  obtain ⟨b, rfl⟩ := rows_ex h2
  obtain ⟨c, rfl⟩ := rows_ex h3
  rw [rows_length] at h4 h5
  simp only [toRows_rows]
  exact f95 p n0 t0 a n1 t1 b n2 t2 c h4 h5
theorem f136 (s : Bys) (rn : OBo) (rt : Bool) (rs : List Row) (kn : OBo) (kt : Bool) (ks : List Nd) :
    call E 136 [.agg [.c (.str s), .c (.sl 5 rn rt (rows rs)), .c (.sl 3 kn kt (encL ks))]] [] = some ([V.b (!okR (.node s rs ks))], []) := by
  refine call_of (E := E) (sh := sh) (ct := ctOf [(28, s28)]) (na := 1) (m := 0) (ctOf_cons s28_ok ctOf_nil) rfl rfl rfl rfl rfl rfl ?_
  rw [t136]
  simp only [nd_ok, nd_lab, nd_rows, nd_kids, encL_length, isL_enc, decL_enc, wrap_hd, hd_pos, ld_br, ld_chk', ld_leaf, fd_br, fd_chk', fd_leaf, decide_true, decide_eq_true_eq, if_true, Int.toNat_natCast, Int.natCast_nonneg, Int.ofNat_lt, Int.ofNat_le, Bool.false_eq_true, if_false, bne_iff_ne, beq_iff_eq, ne_eq, not_true_eq_false, not_false_eq_true, Bool.not_eq_true', decide_eq_false_iff_not, reduceCtorEq, rows_length, pcs_length, er_ok, er_ok', ep_ok, ep_ok', dr_er, dp_ep, isRows_rows, isPcs_pcs, toRows_rows, toPcs_pcs, rows_take, rows_drop, pcs_take, pcs_drop, rows_append, pcs_append, ints_length, isInts_ints, toInts_ints, ei_i, ei_ok, mk_headD, ints_take, ints_drop, ints_append, ints_snoc, ints_snoc', List.take_length, Nat.zero_add, Nat.le_refl, er_a, er_b, er_k, er_n, er_s, er_v, ep_a, ep_b, ep_hk, ep_hn, ep_hs, ep_wk, ep_wn, ep_ws, checkT_ne]
theorem s136_ok : CSpecOk E 136 s136 := by
  intro a h cs vals h' he hc
  unfold s136 at he
  split at he <;> simp only [Option.some.injEq, Prod.mk.injEq, reduceCtorEq] at he
  rename_i s rn rt xs kn kt ys
  obtain ⟨rfl, rfl, rfl⟩ := he
  simp only [allT, Bool.and_true, Bool.and_eq_true, decide_eq_true_eq] at hc
  obtain ⟨h1, h2⟩ := hc
  obtain ⟨rs, rfl⟩ := rows_ex h1
  obtain ⟨ks, rfl⟩ := isL_ex h2
  simp only [toRows_rows, decL_enc] at *
  exact f136 s rn rt rs kn kt ks
theorem idxT_drop (f : Nd → Bool) (l : List Nd) (k j : Nat) (hk : k < l.length) : idxT f (l.drop k) j = if f l[k] = true then (j : Int) else idxT f (l.drop (k + 1)) (j + 1) := by
  rw [List.drop_eq_getElem_cons hk, idxT]
theorem f142 (nl : OBo) (tt : Bool) (ks : List Nd) (hk : ks.length ≤ 9223372036854775807) : call E 142 [.c (.sl 3 nl tt (encL ks)), .fn 136 []] [] = some ([V.i (idxT (fun t => !okR t) ks 0)], []) := by
  refine call_of (E := E) (sh := sh) (ct := ctOf [(136, s136)]) (na := 2) (m := 0) (ctOf_cons s136_ok ctOf_nil) rfl rfl rfl rfl rfl rfl ?_
  rw [t142, encL_length]
  refine fd_post (ctOf_cons s136_ok ctOf_nil) (by kernel_rfl) rfl (list_post (p := p142) (ctOf_cons s136_ok ctOf_nil) (b := b142_0) ks.length (fun k (_ : Unit) => s142_0 nl tt (encL ks) ks.length k) (fun k _ => idxT (fun t => !okR t) (ks.drop k) k = idxT (fun t => !okR t) ks 0) _ ?_ ?_ 0 (Nat.zero_le _) () rfl)
  · intro k _ hk2 hi
    rw [idxT_drop _ _ _ _ hk2] at hi
    have e : p142.ld b142_0 (p142.lts b142_0 (s142_0 nl tt (encL ks) ks.length k)) = (if (!okR ks[k]) = true then some (R.x (x142_0x0 k)) else some (R.s (s142_0 nl tt (encL ks) ks.length ((k + 1 : Nat) : Int)))) := by
      rw [t142_0]
      simp only [nd_ok, nd_lab, nd_rows, nd_kids, encL_length, isL_enc, decL_enc, wrap_hd, hd_pos, ld_br, ld_chk', ld_leaf, fd_br, fd_chk', fd_leaf, decide_true, decide_eq_true_eq, if_true, Int.toNat_natCast, Int.natCast_nonneg, Int.ofNat_lt, Int.ofNat_le, Bool.false_eq_true, if_false, bne_iff_ne, beq_iff_eq, ne_eq, not_true_eq_false, not_false_eq_true, Bool.not_eq_true', decide_eq_false_iff_not, reduceCtorEq, rows_length, pcs_length, er_ok, er_ok', ep_ok, ep_ok', dr_er, dp_ep, isRows_rows, isPcs_pcs, toRows_rows, toPcs_pcs, rows_take, rows_drop, pcs_take, pcs_drop, rows_append, pcs_append, ints_length, isInts_ints, toInts_ints, ei_i, ei_ok, mk_headD, ints_take, ints_drop, ints_append, ints_snoc, ints_snoc', List.take_length, Nat.zero_add, Nat.le_refl, er_a, er_b, er_k, er_n, er_s, er_v, ep_a, ep_b, ep_hk, ep_hn, ep_hs, ep_wk, ep_wn, ep_ws, hk2, encL_getD hk2, Nd.eta, wrap_succ (show k < 9223372036854775807 by omega)]
    cases c : okR ks[k] with
    | true =>
      rw [c] at hi e
      exact .inl ⟨(), by simpa using hi, by rw [e]; rfl⟩
    | false =>
      rw [c] at hi e
      refine .inr ⟨x142_0x0 k, by simp, ?_, by rw [e]; rfl⟩
      rw [k142_0x0, fd_leaf, ← hi]; rfl
  · intro _ hi
    rw [List.drop_length] at hi
    refine ⟨x142_0x1 nl tt (encL ks) ks.length ks.length, by simp, ?_, ?_⟩
    · rw [k142_0x1, fd_leaf, ← hi]; rfl
    · rw [t142_0]; simp only [nd_ok, nd_lab, nd_rows, nd_kids, encL_length, isL_enc, decL_enc, wrap_hd, hd_pos, ld_br, ld_chk', ld_leaf, fd_br, fd_chk', fd_leaf, decide_true, decide_eq_true_eq, if_true, Int.toNat_natCast, Int.natCast_nonneg, Int.ofNat_lt, Int.ofNat_le, Bool.false_eq_true, if_false, bne_iff_ne, beq_iff_eq, ne_eq, not_true_eq_false, not_false_eq_true, Bool.not_eq_true', decide_eq_false_iff_not, reduceCtorEq, rows_length, pcs_length, er_ok, er_ok', ep_ok, ep_ok', dr_er, dp_ep, isRows_rows, isPcs_pcs, toRows_rows, toPcs_pcs, rows_take, rows_drop, pcs_take, pcs_drop, rows_append, pcs_append, ints_length, isInts_ints, toInts_ints, ei_i, ei_ok, mk_headD, ints_take, ints_drop, ints_append, ints_snoc, ints_snoc', List.take_length, Nat.zero_add, Nat.le_refl, er_a, er_b, er_k, er_n, er_s, er_v, ep_a, ep_b, ep_hk, ep_hn, ep_hs, ep_wk, ep_wn, ep_ws, Int.lt_irrefl]
theorem s142_ok : CSpecOk E 142 s142 := by
  intro a h cs vals h' he hc
  unfold s142 at he
  split at he <;> simp only [Option.some.injEq, Prod.mk.injEq, reduceCtorEq] at he
  rename_i nl tt ys
  obtain ⟨rfl, rfl, rfl⟩ := he
  simp only [allT, Bool.and_true, Bool.and_eq_true, decide_eq_true_eq] at hc
  obtain ⟨h1, h2⟩ := hc
  obtain ⟨ks, rfl⟩ := isL_ex h1
  rw [encL_length] at h2
  simp only [decL_enc] at *
  exact f142 nl tt ks h2
theorem idxT_all (l : List Nd) (j : Nat) : decide (0 ≤ idxT (fun t => !okR t) l j) = !l.all okR := by
  induction l generalizing j with
  | nil => rfl
  | cons t r ih =>
    rw [idxT, List.all_cons]
    cases c : okR t with
    | true => simpa using ih (j + 1)
    | false => simp
theorem f104 (nl : OBo) (tt : Bool) (ks : List Nd) (hk : ks.length ≤ 9223372036854775807) : call E 104 [.c (.sl 3 nl tt (encL ks)), .fn 136 []] [] = some ([V.b (!ks.all okR)], []) := by
  refine call_of (E := E) (sh := sh) (ct := ctOf [(142, s142)]) (na := 2) (m := 0) (ctOf_cons s142_ok ctOf_nil) rfl rfl rfl rfl rfl rfl ?_
  rw [t104]
  simp only [nd_ok, nd_lab, nd_rows, nd_kids, encL_length, isL_enc, decL_enc, wrap_hd, hd_pos, ld_br, ld_chk', ld_leaf, fd_br, fd_chk', fd_leaf, decide_true, decide_eq_true_eq, if_true, Int.toNat_natCast, Int.natCast_nonneg, Int.ofNat_lt, Int.ofNat_le, Bool.false_eq_true, if_false, bne_iff_ne, beq_iff_eq, ne_eq, not_true_eq_false, not_false_eq_true, Bool.not_eq_true', decide_eq_false_iff_not, reduceCtorEq, rows_length, pcs_length, er_ok, er_ok', ep_ok, ep_ok', dr_er, dp_ep, isRows_rows, isPcs_pcs, toRows_rows, toPcs_pcs, rows_take, rows_drop, pcs_take, pcs_drop, rows_append, pcs_append, ints_length, isInts_ints, toInts_ints, ei_i, ei_ok, mk_headD, ints_take, ints_drop, ints_append, ints_snoc, ints_snoc', List.take_length, Nat.zero_add, Nat.le_refl, er_a, er_b, er_k, er_n, er_s, er_v, ep_a, ep_b, ep_hk, ep_hn, ep_hs, ep_wk, ep_wn, ep_ws, hk, idxT_all]
theorem s104_ok : CSpecOk E 104 s104 := by
  intro a h cs vals h' he hc
  unfold s104 at he
  split at he <;> simp only [Option.some.injEq, Prod.mk.injEq, reduceCtorEq] at he
  rename_i nl tt ys
  obtain ⟨rfl, rfl, rfl⟩ := he
  simp only [allT, Bool.and_true, Bool.and_eq_true, decide_eq_true_eq] at hc
  obtain ⟨h1, h2⟩ := hc
  obtain ⟨ks, rfl⟩ := isL_ex h1
  rw [encL_length] at h2
  simp only [decL_enc] at *
  exact f104 nl tt ks h2
theorem f93 (nl : OBo) (tt : Bool) (ks : List Nd) (hk : ks.length ≤ 9223372036854775807) : call E 93 [.c (.sl 3 nl tt (encL ks))] [] = some ([V.b (ks.all okR)], []) := by
  refine call_of (E := E) (sh := sh) (ct := ctOf [(104, s104)]) (na := 1) (m := 0) (ctOf_cons s104_ok ctOf_nil) rfl rfl rfl rfl rfl rfl ?_
  rw [t93]
  simp only [nd_ok, nd_lab, nd_rows, nd_kids, encL_length, isL_enc, decL_enc, wrap_hd, hd_pos, ld_br, ld_chk', ld_leaf, fd_br, fd_chk', fd_leaf, decide_true, decide_eq_true_eq, if_true, Int.toNat_natCast, Int.natCast_nonneg, Int.ofNat_lt, Int.ofNat_le, Bool.false_eq_true, if_false, bne_iff_ne, beq_iff_eq, ne_eq, not_true_eq_false, not_false_eq_true, Bool.not_eq_true', decide_eq_false_iff_not, reduceCtorEq, rows_length, pcs_length, er_ok, er_ok', ep_ok, ep_ok', dr_er, dp_ep, isRows_rows, isPcs_pcs, toRows_rows, toPcs_pcs, rows_take, rows_drop, pcs_take, pcs_drop, rows_append, pcs_append, ints_length, isInts_ints, toInts_ints, ei_i, ei_ok, mk_headD, ints_take, ints_drop, ints_append, ints_snoc, ints_snoc', List.take_length, Nat.zero_add, Nat.le_refl, er_a, er_b, er_k, er_n, er_s, er_v, ep_a, ep_b, ep_hk, ep_hn, ep_hs, ep_wk, ep_wn, ep_ws, hk, Bool.not_not]
def s93 : CSpec := fun a h => match a, h with
  | [.c (.sl 3 nl tt ys)], [] => some ([isL ys, decide (ys.length ≤ 9223372036854775807)], [V.b ((decL ys).all okR)], [])
  | _, _ => none
theorem s93_ok : CSpecOk E 93 s93 := by
  intro a h cs vals h' he hc
  unfold s93 at he
  split at he <;> simp only [Option.some.injEq, Prod.mk.injEq, reduceCtorEq] at he
  rename_i nl tt ys
  obtain ⟨rfl, rfl, rfl⟩ := he
  simp only [allT, Bool.and_true, Bool.and_eq_true, decide_eq_true_eq] at hc
  obtain ⟨h1, h2⟩ := hc
  obtain ⟨ks, rfl⟩ := isL_ex h1
  rw [encL_length] at h2
  simp only [decL_enc] at *
  exact f93 nl tt ks h2
theorem f94 (nl : OBo) (tt : Bool) (ys : LLC) : call E 94 [.c (.sl 3 nl tt ys)] [] = some ([.fn 137 [.ptr 0 0 0 0]], [.box [.c (.sl 3 nl tt ys)]]) := by
  refine call_of (E := E) (sh := sh) (ct := ctOf []) (na := 1) (m := 0) ctOf_nil rfl rfl rfl rfl rfl rfl ?_
  rw [t94, fd_leaf]
def s94 : CSpec := fun a h => match a, h with
  | [.c (.sl 3 nl tt ys)], [] => some ([], [.fn 137 [.ptr 0 0 0 0]], [.box [.c (.sl 3 nl tt ys)]])
  | _, _ => none
theorem s94_ok : CSpecOk E 94 s94 := by
  intro a h cs vals h' he hc
  unfold s94 at he
  split at he <;> simp only [Option.some.injEq, Prod.mk.injEq, reduceCtorEq] at he
  obtain ⟨rfl, rfl, rfl⟩ := he
  exact f94 _ _ _
end Go.Proofs.YtgaabjmbnomimaaDoor
namespace Go.Proofs.YtgaabjmbnomimaaDoor
open Go Go.Ev
-- cse
noncomputable abbrev p43 : Par := par E sh (ctOf [(93, s93), (94, s94), (95, s95), (25, s25)]) 43 3 0
abbrev s43_0 (nl7 : OBo) (t7 : Bool) (xs7 : LLC) (i8 : Int) (sh0 : Bys) (nlh0 : OBo) (th0 : Bool) (xsh0 : LLC) (nlh0_1 : OBo) (th0_1 : Bool) (xsh0_1 : LLC) (sh1 : Bys) (nlh1 : OBo) (th1 : Bool) (xsh1 : LLC) (nlh1_1 : OBo) (th1_1 : Bool) (xsh1_1 : LLC) (ys2_1 : LLC) (nh3 : Nat) (nlh4 : OBo) (th4 : Bool) (xsh4 : LLC) : Fr × Hp := ([(6, V.ptr 0 0 0 0), (7, V.c (C.sl 1 nl7 t7 xs7)), (8, V.c (C.int IntKind.i64 i8)), (9, V.ptr 1 0 0 0), (10, V.ptr 3 0 0 0), (25, V.fn 137 [V.ptr 4 0 0 0])], [O.box [V.c (C.str sh0), V.c (C.sl 5 nlh0 th0 xsh0), V.c (C.sl 3 nlh0_1 th0_1 xsh0_1)], O.box [V.c (C.str sh1), V.c (C.sl 5 nlh1 th1 xsh1), V.c (C.sl 3 nlh1_1 th1_1 xsh1_1)], O.mem 1 0 ys2_1, O.box [V.buf 2 0 0 nh3], O.box [V.c (C.sl 3 nlh4 th4 xsh4)]])
noncomputable abbrev b43_0 : Code := loopAt (codeOf E (43)) 0
abbrev g43_0 (nl7 : OBo) (t7 : Bool) (xs7 : LLC) (i8 : Int) (sh0 : Bys) (nlh0 : OBo) (th0 : Bool) (xsh0 : LLC) (nlh0_1 : OBo) (th0_1 : Bool) (xsh0_1 : LLC) (sh1 : Bys) (nlh1 : OBo) (th1 : Bool) (xsh1 : LLC) (nlh1_1 : OBo) (th1_1 : Bool) (xsh1_1 : LLC) (ys2_1 : LLC) (nh3 : Nat) : Fr × Hp := ([(6, V.ptr 0 0 0 0), (7, V.c (C.sl 1 nl7 t7 xs7)), (8, V.c (C.int IntKind.i64 i8)), (9, V.ptr 1 0 0 0), (10, V.ptr 3 0 0 0), (25, V.fn 137 [V.ptr 4 0 0 0])], [O.box [V.c (C.str sh0), V.c (C.sl 5 nlh0 th0 xsh0), V.c (C.sl 3 nlh0_1 th0_1 xsh0_1)], O.box [V.c (C.str sh1), V.c (C.sl 5 nlh1 th1 xsh1), V.c (C.sl 3 nlh1_1 th1_1 xsh1_1)], O.mem 1 0 ys2_1, O.box [V.buf 2 0 0 nh3], O.gone])
abbrev x43_0n (nl7 : OBo) (t7 : Bool) (xs7 : LLC) (i8 : Int) (sh0 : Bys) (nlh0 : OBo) (th0 : Bool) (xsh0 : LLC) (nlh0_1 : OBo) (th0_1 : Bool) (xsh0_1 : LLC) (sh1 : Bys) (nlh1 : OBo) (th1 : Bool) (xsh1 : LLC) (nlh1_1 : OBo) (th1_1 : Bool) (xsh1_1 : LLC) (ys2_1 : LLC) (nh3 : Nat) : Ex × Fr × Hp := (Ex.nrm, [(6, V.ptr 0 0 0 0), (7, V.c (C.sl 1 nl7 t7 xs7)), (8, V.c (C.int IntKind.i64 i8)), (9, V.ptr 1 0 0 0), (10, V.ptr 3 0 0 0), (25, V.fn 137 [V.ptr 4 0 0 0])], [O.box [V.c (C.str sh0), V.c (C.sl 5 nlh0 th0 xsh0), V.c (C.sl 3 nlh0_1 th0_1 xsh0_1)], O.box [V.c (C.str sh1), V.c (C.sl 5 nlh1 th1 xsh1), V.c (C.sl 3 nlh1_1 th1_1 xsh1_1)], O.mem 1 0 ys2_1, O.box [V.buf 2 0 0 nh3], O.gone])
theorem t43_0 (nl7 : OBo) (t7 : Bool) (xs7 : LLC) (i8 : Int) (sh0 : Bys) (nlh0 : OBo) (th0 : Bool) (xsh0 : LLC) (nlh0_1 : OBo) (th0_1 : Bool) (xsh0_1 : LLC) (sh1 : Bys) (nlh1 : OBo) (th1 : Bool) (xsh1 : LLC) (nlh1_1 : OBo) (th1_1 : Bool) (xsh1_1 : LLC) (ys2_1 : LLC) (nh3 : Nat) (p : Bys) (n0 : OBo) (t0 : Bool) (z0 : LLC) (n1 : OBo) (t1 : Bool) (z1 : LLC) (n2 : OBo) (t2 : Bool) (z2 : LLC) : p43.rts b43_0 ([V.agg [V.c (C.str p), V.c (C.sl 5 n0 t0 z0), V.c (C.sl 5 n1 t1 z1), V.c (C.sl 5 n2 t2 z2)]]) (g43_0 nl7 t7 xs7 i8 sh0 nlh0 th0 xsh0 nlh0_1 th0_1 xsh0_1 sh1 nlh1 th1 xsh1 nlh1_1 th1_1 xsh1_1 ys2_1 nh3) = (Tr.chk (isRows z0) (Tr.chk (isRows z1) (Tr.chk (isRows z2) (Tr.chk (decide (z0.length ≤ 9223372036854775807)) (Tr.chk (decide (z1.length ≤ 9223372036854775807)) (Tr.br (!!bad3 (toRows z0) (toRows z1) (toRows z2)) (Tr.chk true (Tr.chk true (Tr.chk (decide (nh3 + 1 < 4294967296)) (Tr.chk true (Tr.leaf (R.s (g43_0 nl7 t7 xs7 i8 sh0 nlh0 th0 xsh0 nlh0_1 th0_1 xsh0_1 sh1 nlh1 th1 xsh1 nlh1_1 th1_1 xsh1_1 (List.take nh3 ys2_1 ++ [[C.str p]]) (nh3 + 1)))))))) (Tr.chk (isRows xsh1) (Tr.chk (isL xsh1_1) (Tr.chk (isRows (rows (metR (toRows z0) (toRows z1) (toRows z2)))) (Tr.chk true (Tr.leaf (R.s (g43_0 nl7 t7 xs7 i8 sh0 nlh0 th0 xsh0 nlh0_1 th0_1 xsh0_1 ((putP (Nd.node sh1 (toRows xsh1) (decL xsh1_1)) p (toRows (rows (metR (toRows z0) (toRows z1) (toRows z2))))).fst.lab) (none) false (rows (putP (Nd.node sh1 (toRows xsh1) (decL xsh1_1)) p (toRows (rows (metR (toRows z0) (toRows z1) (toRows z2))))).fst.rows) (none) false (encL (putP (Nd.node sh1 (toRows xsh1) (decL xsh1_1)) p (toRows (rows (metR (toRows z0) (toRows z1) (toRows z2))))).fst.kids) ys2_1 nh3))))))))))))) := by kernel_rfl
theorem k43_0n (nl7 : OBo) (t7 : Bool) (xs7 : LLC) (i8 : Int) (sh0 : Bys) (nlh0 : OBo) (th0 : Bool) (xsh0 : LLC) (nlh0_1 : OBo) (th0_1 : Bool) (xsh0_1 : LLC) (sh1 : Bys) (nlh1 : OBo) (th1 : Bool) (xsh1 : LLC) (nlh1_1 : OBo) (th1_1 : Bool) (xsh1_1 : LLC) (ys2_1 : LLC) (nh3 : Nat) : p43.fkx 0 (x43_0n nl7 t7 xs7 i8 sh0 nlh0 th0 xsh0 nlh0_1 th0_1 xsh0_1 sh1 nlh1 th1 xsh1 nlh1_1 th1_1 xsh1_1 ys2_1 nh3) = (Tr.chk true (Tr.br (decide (0 < (↑nh3 : Int))) (Tr.leaf (R.out [V.agg [V.c (C.str []), V.c (C.sl 5 none false []), V.c (C.sl 3 none false [])], V.c (C.sl 1 none false (List.take nh3 ys2_1)), V.c (C.int IntKind.i64 19)] [])) (Tr.leaf (R.out [V.agg [V.c (C.str sh1), V.c (C.sl 5 none false xsh1), V.c (C.sl 3 none false xsh1_1)], V.c (C.sl 1 none false []), V.c (C.int IntKind.i64 0)] [])))) := by kernel_rfl
theorem t43 (s : Bys) (rn : OBo) (rt : Bool) (xs : LLC) (kn : OBo) (kt : Bool) (ys : LLC) (s2 : Bys) (rn2 : OBo) (rt2 : Bool) (xs2 : LLC) (kn2 : OBo) (kt2 : Bool) (ys2 : LLC) (s3 : Bys) (rn3 : OBo) (rt3 : Bool) (xs3 : LLC) (kn3 : OBo) (kt3 : Bool) (ys3 : LLC) : p43.ft ([V.agg [V.c (C.str s), V.c (C.sl 5 rn rt xs), V.c (C.sl 3 kn kt ys)], V.agg [V.c (C.str s2), V.c (C.sl 5 rn2 rt2 xs2), V.c (C.sl 3 kn2 kt2 ys2)], V.agg [V.c (C.str s3), V.c (C.sl 5 rn3 rt3 xs3), V.c (C.sl 3 kn3 kt3 ys3)]]) ([]) = (Tr.chk (isL [[C.str s, C.sl 5 rn rt xs, C.sl 3 kn kt ys], [C.str s2, C.sl 5 rn2 rt2 xs2, C.sl 3 kn2 kt2 ys2], [C.str s3, C.sl 5 rn3 rt3 xs3, C.sl 3 kn3 kt3 ys3]]) (Tr.chk true (Tr.br (!(decL [[C.str s, C.sl 5 rn rt xs, C.sl 3 kn kt ys], [C.str s2, C.sl 5 rn2 rt2 xs2, C.sl 3 kn2 kt2 ys2], [C.str s3, C.sl 5 rn3 rt3 xs3, C.sl 3 kn3 kt3 ys3]]).all okR) (Tr.leaf (R.out [V.agg [V.c (C.str []), V.c (C.sl 5 none false []), V.c (C.sl 3 none false [])], V.c (C.sl 1 none false []), V.c (C.int IntKind.i64 2)] [])) (Tr.rs 0 (s43_0 (some true) true ([]) (0) ([]) (some true) true ([]) (some true) true ([]) ([]) (some true) true ([]) (some true) true ([]) ([]) (0) (some false) true ([[C.str s, C.sl 5 rn rt xs, C.sl 3 kn kt ys], [C.str s2, C.sl 5 rn2 rt2 xs2, C.sl 3 kn2 kt2 ys2], [C.str s3, C.sl 5 rn3 rt3 xs3, C.sl 3 kn3 kt3 ys3]])))))) := by kernel_rfl
end Go.Proofs.YtgaabjmbnomimaaDoor
namespace Go.Proofs.YtgaabjmbnomimaaDoor
open Go Go.Ev
theorem sidesF_len : ∀ (f : Nat) (x y z : List Ent), (sidesF f x y z).length ≤ f
  | 0, _, _, _ => Nat.le_refl _
  | f + 1, x, y, z => by
    by_cases h : leastP (leastP (leastP [] x) y) z = []
    · rw [sidesF_end f h]; exact Nat.zero_le _
    · rw [sidesF_step f rfl h, List.length_cons]; exact Nat.succ_le_succ (sidesF_len f _ _ _)
theorem encS_eq (s : Sd) : encS s = [V.agg [V.c (C.str s.p), V.c (C.sl 5 (rcN s.a) (rcT s.a) (rows s.a)), V.c (C.sl 5 (rcN s.b) (rcT s.b) (rows s.b)), V.c (C.sl 5 (rcN s.c) (rcT s.c) (rows s.c))]] := by
  rw [encS, VS, rowsV_eq, rowsV_eq, rowsV_eq]
def strs (l : List (List UInt8)) : List (List C) := l.map fun p => [C.str p]
theorem strs_length (l : List (List UInt8)) : (strs l).length = l.length := List.length_map _
theorem strs_take (l : List (List UInt8)) : (strs l).take l.length = strs l := by rw [← strs_length l, List.take_length]
theorem strs_snoc (l : List (List UInt8)) (p : Bys) : strs l ++ [[C.str p]] = strs (l ++ [p]) := by simp [strs]
def mergeP (a b c : Nd) : Nd × List (List UInt8) × Int := if okR a = true ∧ okR b = true ∧ okR c = true then (if badT a b c = [] then (mergeT a b c, [], 0) else (nd0, badT a b c, 19)) else (nd0, [], 2)
theorem right_len63 {l : List Row} (h : right l = true) : l.length ≤ 9223372036854775807 := by have := right_len4 h; omega
theorem entP_len (t : Nd) (h : (entL t.kids).length < 1000000000) : (entP t).length < 1000000000 := by
  rw [entP]; cases okR t
  · simp
  · exact h
structure InvM (a b c : Nd) (l : List Sd) (t : Nd) (bad : List (List UInt8)) : Prop where
  ok : okR t = true
  tree : putsF gM t l = mergeT a b c
  bads : bad ++ badL l = badT a b c
  sub : ∀ s ∈ l, s ∈ S3 a b c
theorem badT_len (a b c : Nd) (ha : (entL a.kids).length < 1000000000) (hb : (entL b.kids).length < 1000000000) (hc : (entL c.kids).length < 1000000000) : (badT a b c).length < 4294967295 := by
  have h1 : (badT a b c).length ≤ (S3 a b c).length := by unfold badT badL; rw [List.length_map]; exact List.length_filter_le _ _
  have h2 : (S3 a b c).length ≤ (entP a).length + (entP b).length + (entP c).length + 1 := sidesF_len _ _ _ _
  have := entP_len a ha; have := entP_len b hb; have := entP_len c hc
  omega
theorem f43 (a b c : Nd) (ha : (entL a.kids).length < 1000000000) (hb : (entL b.kids).length < 1000000000) (hc : (entL c.kids).length < 1000000000) :
    call E 43 [VT a, VT b, VT c] [] = some ([VT (mergeP a b c).1, .c (.sl 1 none false (strs (mergeP a b c).2.1)), V.i (mergeP a b c).2.2], []) := by
  have hct : (ctOf [(93, s93), (94, s94), (95, s95), (25, s25)]).ok E := ctOf_cons s93_ok (ctOf_cons s94_ok (ctOf_cons s95_ok (ctOf_cons s25_ok ctOf_nil)))
  refine call_of (E := E) (sh := sh) (ct := ctOf [(93, s93), (94, s94), (95, s95), (25, s25)]) (na := 3) (m := 0) hct rfl rfl rfl rfl rfl rfl ?_
  show p43.fd (p43.ft [VT a, VT b, VT c] []) = some (.out _ _)
  rw [show p43.ft [VT a, VT b, VT c] [] = _ from t43 _ _ _ _ _ _ _ _ _ _ _ _ _ _ _ _ _ _ _ _ _]
  have hL : ([[C.str a.lab, C.sl 5 none false (rows a.rows), C.sl 3 none false (encL a.kids)], [C.str b.lab, C.sl 5 none false (rows b.rows), C.sl 3 none false (encL b.kids)], [C.str c.lab, C.sl 5 none false (rows c.rows), C.sl 3 none false (encL c.kids)]] : LLC) = encL [a, b, c] := by
    simp only [encL, Nd.enc_eq]
  rw [hL]
  simp only [nd_ok, nd_lab, nd_rows, nd_kids, encL_length, isL_enc, decL_enc, wrap_hd, hd_pos, ld_br, ld_chk', ld_leaf, fd_br, fd_chk', fd_leaf, decide_true, decide_eq_true_eq, if_true, Int.toNat_natCast, Int.natCast_nonneg, Int.ofNat_lt, Int.ofNat_le, Bool.false_eq_true, if_false, bne_iff_ne, beq_iff_eq, ne_eq, not_true_eq_false, not_false_eq_true, Bool.not_eq_true', decide_eq_false_iff_not, reduceCtorEq, rows_length, pcs_length, er_ok, er_ok', ep_ok, ep_ok', dr_er, dp_ep, isRows_rows, isPcs_pcs, toRows_rows, toPcs_pcs, rows_take, rows_drop, pcs_take, pcs_drop, rows_append, pcs_append, ints_length, isInts_ints, toInts_ints, ei_i, ei_ok, mk_headD, ints_take, ints_drop, ints_append, ints_snoc, ints_snoc', List.take_length, Nat.zero_add, Nat.le_refl, er_a, er_b, er_k, er_n, er_s, er_v, ep_a, ep_b, ep_hk, ep_hn, ep_hs, ep_wk, ep_wn, ep_ws, List.all_cons, List.all_nil, Bool.and_true]
  have hand : (okR a && (okR b && okR c)) = decide (okR a = true ∧ okR b = true ∧ okR c = true) := by
    cases okR a <;> cases okR b <;> cases okR c <;> rfl
  by_cases hok : okR a = true ∧ okR b = true ∧ okR c = true
  · rw [hand, decide_eq_true hok]
    rw [if_neg (by simp)]
    have hs := spT a b c
    have hlen := badT_len a b c ha hb hc
    refine fd_rpost hct (by kernel_rfl) rfl (ranges_post (p := p43) hct (c := b43_0) (gi := 137) (caps := [.ptr 4 0 0 0]) (args := [.yl 1, .ptr 0 0 0 0])
      (h0 := [.box [.c (.sl 3 (some false) true (encL [a, b, c]))]]) (ids := [4]) (by kernel_rfl) (S3 a b c) encS rfl (by kernel_rfl)
      (sq137_3 (some false) true a b c)
      (fun u b' hw => ⟨_, _, f137_3 (some false) true a b c ha hb hc u b' hw, rfl⟩)
      (fun (s : (Nd × Option Bool × Bool × Option Bool × Bool) × List (List UInt8)) => g43_0 (some true) true [] 0 [] (some true) true [] (some true) true [] s.1.1.lab s.1.2.1 s.1.2.2.1 (rows s.1.1.rows) s.1.2.2.2.1 s.1.2.2.2.2 (encL s.1.1.kids) (strs s.2) s.2.length)
      (fun l s => InvM a b c l s.1.1 s.2) _ ?_ ?_ ((nd0, some true, true, some true, true), []) rfl ⟨nd0_ok, rfl, rfl, fun s h => h⟩)
    · rintro s l ⟨⟨t, rn, rt, kn, kt⟩, bad⟩ ⟨h1, h2, h3, h4⟩
      dsimp only at h1 h2 h3 h4 ⊢
      left
      have hsm := h4 s (by simp)
      have hra : right s.a = true := by rw [hs.a s hsm]; exact look_right (gd_entP a) _
      have hrb : right s.b = true := by rw [hs.b s hsm]; exact look_right (gd_entP b) _
      have hrc : right s.c = true := by rw [hs.c s hsm]; exact look_right (gd_entP c) _
      have la := right_len63 hra
      have lb := right_len63 hrb
      obtain ⟨pn, pl⟩ := hs.path (gd_entP a) (gd_entP b) (gd_entP c) hsm
      have hrm : right (metR s.a s.b s.c) = true := by
        unfold metR met3
        split
        · rfl
        · split
          · exact hrb
          · exact hrc
      have hput : putP t s.p (metR s.a s.b s.c) = (putR t s.p (metR s.a s.b s.c), 0) := by
        rw [putP, if_pos ⟨h1, isPath_iff.2 ⟨pn, pl⟩, hrm⟩]
      have hbl : bad.length + 1 ≤ 4294967295 ∨ badS s = false := by
        cases hb : badS s with
        | false => exact .inr rfl
        | true =>
          left
          have := congrArg List.length h3
          rw [show badL (s :: l) = s.p :: badL l by simp [badL, hb]] at this
          simp only [List.length_append, List.length_cons] at this; omega
      rw [encS_eq]
      cases hbd : badS s with
      | true =>
        have hbl2 : bad.length + 1 < 4294967296 := by
          rcases hbl with h | h
          · omega
          · rw [hbd] at h; cases h
        refine ⟨((t, rn, rt, kn, kt), bad ++ [s.p]), ⟨h1, ?_, ?_, fun u hu => h4 u (by simp [hu])⟩, ?_⟩
        · rw [← h2, putsF]; simp only [gM, hbd, if_true]
        · rw [← h3, show badL (s :: l) = s.p :: badL l by simp [badL, hbd]]; simp
        · refine (congrArg _ (t43_0 (some true) true [] 0 [] (some true) true [] (some true) true [] t.lab rn rt (rows t.rows) kn kt (encL t.kids) (strs bad) bad.length s.p _ _ (rows s.a) _ _ (rows s.b) _ _ (rows s.c))).trans ?_
          have hbd' : bad3 s.a s.b s.c = true := hbd
          simp only [rd_br, rd_chk', rd_leaf, if_true, isRows_rows, toRows_rows, rows_length, la, lb, hbd', hbl2, decide_true, Bool.not_true, Bool.not_false, strs_take, strs_snoc, List.length_append, List.length_singleton]
      | false =>
        refine ⟨((putR t s.p (metR s.a s.b s.c), none, false, none, false), bad), ⟨?_, ?_, ?_, fun u hu => h4 u (by simp [hu])⟩, ?_⟩
        · exact (putR_ok h1 pn pl hrm).1
        · have hbd' : bad3 s.a s.b s.c = false := hbd
          rw [← h2, putsF]; simp only [gM, hbd, metS, metR, hbd', Bool.false_eq_true, if_false]
        · rw [← h3, show badL (s :: l) = badL l by simp [badL, hbd]]
        · refine (congrArg _ (t43_0 (some true) true [] 0 [] (some true) true [] (some true) true [] t.lab rn rt (rows t.rows) kn kt (encL t.kids) (strs bad) bad.length s.p _ _ (rows s.a) _ _ (rows s.b) _ _ (rows s.c))).trans ?_
          have hbd' : bad3 s.a s.b s.c = false := hbd
          simp only [rd_br, rd_chk', rd_leaf, if_true, isRows_rows, isL_enc, decL_enc, toRows_rows, rows_length, la, lb, hbd', Bool.not_true, Bool.not_false, Bool.false_eq_true, if_false, decide_true, Nd.eta, hput]
    · rintro ⟨⟨t, rn, rt, kn, kt⟩, bad⟩ ⟨h1, h2, h3, h4⟩
      dsimp only at h1 h2 h3 h4
      have h2' : t = mergeT a b c := h2
      have h3' : bad = badT a b c := by rw [← h3]; simp [badL]
      subst h2' h3'
      refine (congrArg _ (k43_0n (some true) true [] 0 [] (some true) true [] (some true) true [] _ rn rt _ kn kt _ _ _)).trans ?_
      simp only [fd_chk', fd_br, fd_leaf, if_true, strs_take, mergeP, if_pos hok, decide_eq_true_eq]
      by_cases hb0 : badT a b c = []
      · rw [hb0]; rfl
      · have : (0 : Int) < ((badT a b c).length : Nat) := by have := List.length_pos_iff.2 hb0; omega
        rw [if_pos this, if_neg hb0]; rfl
  · rw [hand, decide_eq_false hok]
    rw [if_pos (by simp), mergeP, if_neg hok]
    rfl
end Go.Proofs.YtgaabjmbnomimaaDoor
namespace Go.Proofs.YtgaabjmbnomimaaDoor
open Go Go.Ev
-- cse
noncomputable abbrev p135 : Par := par E sh (ctOf []) 135 1 0
abbrev s135_0 (nl : OBo) (tt : Bool) (xs : LLC) (i3 : Int) : Fr × Hp := ([(0, V.c (C.sl 5 nl tt xs)), (3, V.c (C.int IntKind.i64 i3))], [])
noncomputable abbrev b135_0 : Code := loopAt (codeOf E (135)) 0
abbrev x135_0x0 : Ex × Fr × Hp := (Ex.ret, [(2, V.c (C.bool false))], [])
abbrev x135_0x1 (nl : OBo) (tt : Bool) (xs : LLC) (i3 : Int) : Ex × Fr × Hp := (Ex.exit 0, [(0, V.c (C.sl 5 nl tt xs)), (3, V.c (C.int IntKind.i64 i3)), (10, V.c (C.bool false))], [])
theorem t135_0 (nl : OBo) (tt : Bool) (xs : LLC) (i3 : Int) : p135.lts b135_0 (s135_0 nl tt xs i3) = (Tr.br (decide (i3 < (↑xs.length : Int))) (Tr.chk (decide (0 ≤ i3)) (Tr.chk true (Tr.chk (decide (i3.toNat < xs.length)) (Tr.chk (shOk [Sk.int IntKind.i64, Sk.int IntKind.i64, Sk.int IntKind.i64, Sk.int IntKind.i64, Sk.str] (xs.getD i3.toNat [])) (Tr.br (decide (100 < (↑((xs.getD i3.toNat []).tail.tail.tail.tail.headD C.pnil).st.length : Int))) (Tr.leaf (R.x x135_0x0)) (Tr.leaf (R.s (s135_0 nl tt xs (IntKind.i64.wrap (i3 + 1)))))))))) (Tr.leaf (R.x (x135_0x1 nl tt xs i3)))) := by kernel_rfl
theorem k135_0x0 : p135.fkx 0 x135_0x0 = (Tr.leaf (R.out [V.c (C.bool false)] [])) := by kernel_rfl
theorem k135_0x1 (nl : OBo) (tt : Bool) (xs : LLC) (i3 : Int) : p135.fkx 0 (x135_0x1 nl tt xs i3) = (Tr.leaf (R.out [V.c (C.bool true)] [])) := by kernel_rfl
theorem t135 (nl : OBo) (tt : Bool) (xs : LLC) : p135.ft ([V.c (C.sl 5 nl tt xs)]) ([]) = (Tr.br (decide (70 < (↑xs.length : Int))) (Tr.leaf (R.out [V.c (C.bool false)] [])) (Tr.ls 0 (s135_0 nl tt xs (0)))) := by kernel_rfl
def s135 : CSpec := fun a h => match a, h with
  | [.c (.sl 5 nl tt xs)], [] => some ([isRows xs], [V.b (shortR (toRows xs))], [])
  | _, _ => none
variable (dd : Nat)
def s90 : CSpec := fun a h => match a, h with
  | [.agg [.c (.str s), .c (.sl 5 rn rt xs), .c (.sl 3 kn kt ys)], .c (.int .i64 n), .c (.int .i64 d)], [] => some ([isRows xs, isL ys, decide (depL (decL ys) < dd), decide (0 ≤ n), decide (n ≤ 1000), decide (-1000 ≤ d), decide (d ≤ 1000), lensT (.node s (toRows xs) (decL ys))], [V.i (leftT (.node s (toRows xs) (decL ys)) n d)], [])
  | _, _ => none
noncomputable abbrev p90 : Par := par E sh (ctOf [(135, s135), (90, s90 dd)]) 90 3 0
abbrev s90_0 (s : Bys) (rn : OBo) (rt : Bool) (xs : LLC) (kn : OBo) (kt : Bool) (ys : LLC) (d : Int) (i1 : Int) (i7 : Int) : Fr × Hp := ([(1, V.c (C.int IntKind.i64 i1)), (2, V.c (C.int IntKind.i64 d)), (3, V.ptr 0 0 0 0), (7, V.c (C.int IntKind.i64 i7))], [O.box [V.c (C.str s), V.c (C.sl 5 rn rt xs), V.c (C.sl 3 kn kt ys)]])
noncomputable abbrev b90_0 : Code := loopAt (codeOf E (90)) 0
abbrev x90_0x0 (s : Bys) (rn : OBo) (rt : Bool) (xs : LLC) (kn : OBo) (kt : Bool) (ys : LLC) (d : Int) (i1 : Int) (i7 : Int) : Ex × Fr × Hp := (Ex.exit 0, [(1, V.c (C.int IntKind.i64 i1)), (2, V.c (C.int IntKind.i64 d)), (3, V.ptr 0 0 0 0), (7, V.c (C.int IntKind.i64 i7)), (35, V.c (C.bool false))], [O.box [V.c (C.str s), V.c (C.sl 5 rn rt xs), V.c (C.sl 3 kn kt ys)]])
theorem t90_0 (s : Bys) (rn : OBo) (rt : Bool) (xs : LLC) (kn : OBo) (kt : Bool) (ys : LLC) (d : Int) (i1 : Int) (i7 : Int) : (p90 dd).lts b90_0 (s90_0 s rn rt xs kn kt ys d i1 i7) = (Tr.br (decide (i7 < (↑ys.length : Int))) (Tr.br (decide (0 < i1)) (Tr.chk (decide (0 ≤ i7)) (Tr.chk true (Tr.chk (decide (i7.toNat < ys.length)) (Tr.chk (shOk [Sk.str, Sk.sl 5, Sk.sl 3] (ys.getD i7.toNat [])) (Tr.chk (isRows ((ys.getD i7.toNat []).tail.headD C.pnil).xs) (Tr.chk (isL ((ys.getD i7.toNat []).tail.tail.headD C.pnil).xs) (Tr.chk (decide (depL (decL ((ys.getD i7.toNat []).tail.tail.headD C.pnil).xs) < dd)) (Tr.chk (decide (0 ≤ i1)) (Tr.chk (decide (i1 ≤ 1000)) (Tr.chk (decide (-1000 ≤ IntKind.i64.wrap (d - 1))) (Tr.chk (decide (IntKind.i64.wrap (d - 1) ≤ 1000)) (Tr.chk (lensT (Nd.node ((ys.getD i7.toNat []).headD C.pnil).st (toRows ((ys.getD i7.toNat []).tail.headD C.pnil).xs) (decL ((ys.getD i7.toNat []).tail.tail.headD C.pnil).xs))) (Tr.leaf (R.s (s90_0 s rn rt xs kn kt ys d (leftT (Nd.node ((ys.getD i7.toNat []).headD C.pnil).st (toRows ((ys.getD i7.toNat []).tail.headD C.pnil).xs) (decL ((ys.getD i7.toNat []).tail.tail.headD C.pnil).xs)) i1 (IntKind.i64.wrap (d - 1))) (IntKind.i64.wrap (i7 + 1))))))))))))))))) (Tr.leaf (R.x (x90_0x0 s rn rt xs kn kt ys d i1 i7)))) (Tr.leaf (R.x (x90_0x0 s rn rt xs kn kt ys d i1 i7)))) := by kernel_rfl
theorem k90_0x0 (dd : Nat) (s : Bys) (rn : OBo) (rt : Bool) (xs : LLC) (kn : OBo) (kt : Bool) (ys : LLC) (d : Int) (i1 : Int) (i7 : Int) : (p90 dd).fkx 0 (x90_0x0 s rn rt xs kn kt ys d i1 i7) = (Tr.leaf (R.out [V.c (C.int IntKind.i64 i1)] [])) := by kernel_rfl
theorem t90 (s : Bys) (rn : OBo) (rt : Bool) (xs : LLC) (kn : OBo) (kt : Bool) (ys : LLC) (n : Int) (d : Int) : (p90 dd).ft ([V.agg [V.c (C.str s), V.c (C.sl 5 rn rt xs), V.c (C.sl 3 kn kt ys)], V.i n, V.i d]) ([]) = (Tr.chk true (Tr.br (decide (d < 1)) (Tr.leaf (R.out [V.c (C.int IntKind.i64 0)] [])) (Tr.br (decide (IntKind.i64.wrap (IntKind.i64.wrap (n - 1) - IntKind.i64.wrap ((↑s.length : Int).tdiv 50)) < 1)) (Tr.leaf (R.out [V.c (C.int IntKind.i64 0)] [])) (Tr.chk (isRows xs) (Tr.br (!shortR (toRows xs)) (Tr.leaf (R.out [V.c (C.int IntKind.i64 0)] [])) (Tr.ls 0 (s90_0 s rn rt xs kn kt ys d (IntKind.i64.wrap (IntKind.i64.wrap (n - 1) - IntKind.i64.wrap ((↑s.length : Int).tdiv 50))) (0)))))))) := by kernel_rfl
noncomputable abbrev p41 : Par := par E sh (ctOf [(90, s90 dd)]) 41 1 0
theorem t41 (s : Bys) (rn : OBo) (rt : Bool) (xs : LLC) (kn : OBo) (kt : Bool) (ys : LLC) : (p41 dd).ft ([V.agg [V.c (C.str s), V.c (C.sl 5 rn rt xs), V.c (C.sl 3 kn kt ys)]]) ([]) = (Tr.chk (isRows xs) (Tr.chk (isL ys) (Tr.chk (decide (depL (decL ys) < dd)) (Tr.chk true (Tr.chk true (Tr.chk true (Tr.chk true (Tr.chk (lensT (Nd.node s (toRows xs) (decL ys))) (Tr.leaf (R.out [V.c (C.bool (decide (0 < leftT (Nd.node s (toRows xs) (decL ys)) 200 60)))] [])))))))))) := by kernel_rfl
def smallD (t : Nd) : Bool := decide (0 < leftT t 200 60)
def s41 : CSpec := fun a h => match a, h with
  | [.agg [.c (.str s), .c (.sl 5 rn rt xs), .c (.sl 3 kn kt ys)]], [] => some ([isRows xs, isL ys, lensT (.node s (toRows xs) (decL ys))], [V.b (smallD (.node s (toRows xs) (decL ys)))], [])
  | _, _ => none
def s42 : CSpec := fun a h => match a, h with
  | [], [] => some ([], [V.b true], [])
  | _, _ => none
def s43 : CSpec := fun a h => match a, h with
  | [.agg [.c (.str s), .c (.sl 5 none false xs), .c (.sl 3 none false ys)], .agg [.c (.str s2), .c (.sl 5 none false xs2), .c (.sl 3 none false ys2)], .agg [.c (.str s3), .c (.sl 5 none false xs3), .c (.sl 3 none false ys3)]], [] => some ([isRows xs, isL ys, isRows xs2, isL ys2, isRows xs3, isL ys3, decide ((entL (decL ys)).length < 1000000000), decide ((entL (decL ys2)).length < 1000000000), decide ((entL (decL ys3)).length < 1000000000)],
    [VT (mergeP (.node s (toRows xs) (decL ys)) (.node s2 (toRows xs2) (decL ys2)) (.node s3 (toRows xs3) (decL ys3))).1, .c (.sl 1 none false (strs (mergeP (.node s (toRows xs) (decL ys)) (.node s2 (toRows xs2) (decL ys2)) (.node s3 (toRows xs3) (decL ys3))).2.1)), V.i (mergeP (.node s (toRows xs) (decL ys)) (.node s2 (toRows xs2) (decL ys2)) (.node s3 (toRows xs3) (decL ys3))).2.2], [])
  | _, _ => none
end Go.Proofs.YtgaabjmbnomimaaDoor
namespace Go.Proofs.YtgaabjmbnomimaaDoor
open Go Go.Ev
theorem f135 (l : List Row) (nl : OBo) (tt : Bool) : call E 135 [.c (.sl 5 nl tt (rows l))] [] = some ([V.b (shortR l)], []) := by
  have hct : (ctOf []).ok E := ctOf_nil
  refine call_of (E := E) (sh := sh) (ct := ctOf []) (na := 1) (m := 0) hct rfl rfl rfl rfl rfl rfl ?_
  rw [t135, rows_length, fd_br]
  unfold shortR
  by_cases c0 : (70 : Int) < l.length
  · rw [if_pos (by simpa using c0), fd_leaf]
    have : ¬ l.length ≤ 70 := by omega
    simp [this]
  rw [if_neg (by simpa using c0)]
  have c0' : l.length ≤ 70 := by omega
  simp only [c0', decide_true, Bool.true_and]
  refine fd_post hct (by kernel_rfl) rfl (list_post (p := p135) hct (b := b135_0) l.length (fun k (_ : Unit) => s135_0 nl tt (rows l) k) (fun k _ => ((l.drop k).all fun r => decide (r.v.s.length ≤ 100)) = (l.all fun r => decide (r.v.s.length ≤ 100))) _ ?_ ?_ 0 (Nat.zero_le _) () rfl)
  · rintro k _ hk hi
    rw [List.drop_eq_getElem_cons hk, List.all_cons] at hi
    rw [t135_0]
    simp only [ld_br, ld_chk', ld_leaf, fd_br, fd_chk', fd_leaf, decide_true, decide_eq_true_eq, if_true, Int.toNat_natCast, Int.natCast_nonneg, Int.ofNat_lt, Int.ofNat_le, Bool.false_eq_true, if_false, bne_iff_ne, beq_iff_eq, ne_eq, not_true_eq_false, not_false_eq_true, Bool.not_eq_true', decide_eq_false_iff_not, reduceCtorEq, rows_length, pcs_length, er_ok, er_ok', ep_ok, ep_ok', dr_er, dp_ep, isRows_rows, isPcs_pcs, toRows_rows, toPcs_pcs, rows_take, rows_drop, pcs_take, pcs_drop, rows_append, pcs_append, ints_length, isInts_ints, toInts_ints, ei_i, ei_ok, mk_headD, ints_take, ints_drop, ints_append, ints_snoc, ints_snoc', List.take_length, Nat.zero_add, Nat.le_refl, er_a, er_b, er_k, er_n, er_s, er_v, ep_a, ep_b, ep_hk, ep_hn, ep_hs, ep_wk, ep_wn, ep_ws, hk, rows_getD hk, wrap_succ (show k < 9223372036854775807 by omega)]
    by_cases c : (100 : Int) < l[k].v.s.length
    · have : ¬ l[k].v.s.length ≤ 100 := by omega
      simp only [this, decide_false, Bool.false_and] at hi
      exact .inr ⟨x135_0x0, by simp, by rw [k135_0x0, fd_leaf, ← hi], by rw [if_pos c]⟩
    · have : l[k].v.s.length ≤ 100 := by omega
      simp only [this, decide_true, Bool.true_and] at hi
      exact .inl ⟨(), hi, by rw [if_neg c]⟩
  · rintro _ hi
    rw [List.drop_length, List.all_nil] at hi
    rw [t135_0]
    exact ⟨x135_0x1 nl tt (rows l) l.length, by simp, by rw [k135_0x1, fd_leaf, ← hi], by simp only [ld_br, ld_chk', ld_leaf, fd_br, fd_chk', fd_leaf, decide_true, decide_eq_true_eq, if_true, Int.toNat_natCast, Int.natCast_nonneg, Int.ofNat_lt, Int.ofNat_le, Bool.false_eq_true, if_false, bne_iff_ne, beq_iff_eq, ne_eq, not_true_eq_false, not_false_eq_true, Bool.not_eq_true', decide_eq_false_iff_not, reduceCtorEq, rows_length, pcs_length, er_ok, er_ok', ep_ok, ep_ok', dr_er, dp_ep, isRows_rows, isPcs_pcs, toRows_rows, toPcs_pcs, rows_take, rows_drop, pcs_take, pcs_drop, rows_append, pcs_append, ints_length, isInts_ints, toInts_ints, ei_i, ei_ok, mk_headD, ints_take, ints_drop, ints_append, ints_snoc, ints_snoc', List.take_length, Nat.zero_add, Nat.le_refl, er_a, er_b, er_k, er_n, er_s, er_v, ep_a, ep_b, ep_hk, ep_hn, ep_hs, ep_wk, ep_wn, ep_ws, Int.lt_irrefl]⟩
theorem s135_ok : CSpecOk E 135 s135 := by
  intro a h cs vals h' he hc
  unfold s135 at he
  split at he <;> simp only [Option.some.injEq, Prod.mk.injEq, reduceCtorEq] at he
  rename_i nl tt xs
  obtain ⟨rfl, rfl, rfl⟩ := he
  simp only [allT, Bool.and_true, Bool.and_eq_true, decide_eq_true_eq] at hc
  obtain ⟨l, rfl⟩ := rows_ex hc
  rw [toRows_rows]
  exact f135 l nl tt
theorem f90 (dd : Nat) (ih : CSpecOk E 90 (s90 dd)) (s : Bys) (rn : OBo) (rt : Bool) (rs : List Row) (kn : OBo) (kt : Bool) (ks : List Nd) (n d : Int) (hd : depL ks < dd + 1) (h0 : 0 ≤ n) (h1 : n ≤ 1000) (h2 : -1000 ≤ d) (h3 : d ≤ 1000) (hl : lensT (.node s rs ks) = true) :
    call E 90 [.agg [.c (.str s), .c (.sl 5 rn rt (rows rs)), .c (.sl 3 kn kt (encL ks))], V.i n, V.i d] [] = some ([V.i (leftT (.node s rs ks) n d)], []) := by
  have hct : (ctOf [(135, s135), (90, s90 dd)]).ok E := ctOf_cons s135_ok (ctOf_cons ih ctOf_nil)
  refine call_of (E := E) (sh := sh) (ct := ctOf [(135, s135), (90, s90 dd)]) (na := 3) (m := 0) hct rfl rfl rfl rfl rfl rfl ?_
  show (p90 dd).fd ((p90 dd).ft _ _) = _
  rw [lensT] at hl
  simp only [Bool.and_eq_true, decide_eq_true_eq] at hl
  obtain ⟨⟨⟨l1, l2⟩, l4⟩, l3⟩ := hl
  have w0 : ((s.length : Int).tdiv 50) = ((s.length / 50 : Nat) : Int) := rfl
  have w1 : IntKind.wrap .i64 (IntKind.wrap .i64 (n - 1) - IntKind.wrap .i64 ((s.length : Int).tdiv 50)) = n - 1 - ((s.length / 50 : Nat) : Int) := by
    rw [w0, wrap_same (n := n - 1) (by omega) (by omega), wrap_same (n := ((s.length / 50 : Nat) : Int)) (by omega) (by omega), wrap_same (by omega) (by omega)]
  rw [t90, w1]
  simp only [nd_ok, nd_lab, nd_rows, nd_kids, encL_length, isL_enc, decL_enc, wrap_hd, hd_pos, ld_br, ld_chk', ld_leaf, fd_br, fd_chk', fd_leaf, decide_true, decide_eq_true_eq, if_true, Int.toNat_natCast, Int.natCast_nonneg, Int.ofNat_lt, Int.ofNat_le, Bool.false_eq_true, if_false, bne_iff_ne, beq_iff_eq, ne_eq, not_true_eq_false, not_false_eq_true, Bool.not_eq_true', decide_eq_false_iff_not, reduceCtorEq, rows_length, pcs_length, er_ok, er_ok', ep_ok, ep_ok', dr_er, dp_ep, isRows_rows, isPcs_pcs, toRows_rows, toPcs_pcs, rows_take, rows_drop, pcs_take, pcs_drop, rows_append, pcs_append, ints_length, isInts_ints, toInts_ints, ei_i, ei_ok, mk_headD, ints_take, ints_drop, ints_append, ints_snoc, ints_snoc', List.take_length, Nat.zero_add, Nat.le_refl, er_a, er_b, er_k, er_n, er_s, er_v, ep_a, ep_b, ep_hk, ep_hn, ep_hs, ep_wk, ep_wn, ep_ws]
  rw [leftT]
  have hm : n - 1 - ((s.length / 50 : Nat) : Int) ≤ 1000 := by omega
  generalize n - 1 - ((s.length / 50 : Nat) : Int) = m at *
  by_cases c1 : d < 1
  · simp [c1]
  rw [if_neg c1]
  by_cases c2 : m < 1
  · simp [c2]
  rw [if_neg c2]
  by_cases c3 : shortR rs = false
  · simp [c3]
  rw [if_neg c3, if_neg (show ¬ (d < 1 ∨ m < 1 ∨ shortR rs = false) from fun h => h.elim c1 fun h => h.elim c2 c3)]
  have hm0 : 0 ≤ m := by omega
  have w2 : IntKind.wrap .i64 (d - 1) = d - 1 := wrap_same (by omega) (by omega)
  refine fd_post hct (by kernel_rfl) rfl (list_post (p := p90 dd) hct (b := b90_0) ks.length (fun k (m : Int) => s90_0 s rn rt (rows rs) kn kt (encL ks) d m k) (fun k m' => leftL (ks.drop k) m' (d - 1) = leftL ks m (d - 1) ∧ 0 ≤ m' ∧ m' ≤ 1000) _ ?_ ?_ 0 (Nat.zero_le _) m ⟨rfl, hm0, hm⟩)
  · rintro k m' hk ⟨hi, hm1, hm2⟩
    rw [List.drop_eq_getElem_cons hk, leftL_cons] at hi
    have hkid : depL ks[k].kids < dd := by have := depL_kid (List.getElem_mem hk); omega
    rw [t90_0]
    by_cases c : 0 < m'
    · rw [if_pos c] at hi
      have hb := leftT_le ks[k] m' (d - 1) hm1
      refine .inl ⟨leftT ks[k] m' (d - 1), ⟨hi, hb.1, by omega⟩, ?_⟩
      simp only [nd_ok, nd_lab, nd_rows, nd_kids, encL_length, isL_enc, decL_enc, wrap_hd, hd_pos, ld_br, ld_chk', ld_leaf, fd_br, fd_chk', fd_leaf, decide_true, decide_eq_true_eq, if_true, Int.toNat_natCast, Int.natCast_nonneg, Int.ofNat_lt, Int.ofNat_le, Bool.false_eq_true, if_false, bne_iff_ne, beq_iff_eq, ne_eq, not_true_eq_false, not_false_eq_true, Bool.not_eq_true', decide_eq_false_iff_not, reduceCtorEq, rows_length, pcs_length, er_ok, er_ok', ep_ok, ep_ok', dr_er, dp_ep, isRows_rows, isPcs_pcs, toRows_rows, toPcs_pcs, rows_take, rows_drop, pcs_take, pcs_drop, rows_append, pcs_append, ints_length, isInts_ints, toInts_ints, ei_i, ei_ok, mk_headD, ints_take, ints_drop, ints_append, ints_snoc, ints_snoc', List.take_length, Nat.zero_add, Nat.le_refl, er_a, er_b, er_k, er_n, er_s, er_v, ep_a, ep_b, ep_hk, ep_hn, ep_hs, ep_wk, ep_wn, ep_ws, hk, encL_getD hk, nd_node, hkid, w2, hm1, hm2, c, show -1000 ≤ d - 1 by omega, show d - 1 ≤ 1000 by omega, lensL_mem l3 (List.getElem_mem hk), wrap_succ (show k < 9223372036854775807 by omega)]
    · rw [if_neg c] at hi
      exact .inr ⟨x90_0x0 s rn rt (rows rs) kn kt (encL ks) d m' k, by simp, by rw [k90_0x0, fd_leaf, ← hi], by simp only [nd_ok, nd_lab, nd_rows, nd_kids, encL_length, isL_enc, decL_enc, wrap_hd, hd_pos, ld_br, ld_chk', ld_leaf, fd_br, fd_chk', fd_leaf, decide_true, decide_eq_true_eq, if_true, Int.toNat_natCast, Int.natCast_nonneg, Int.ofNat_lt, Int.ofNat_le, Bool.false_eq_true, if_false, bne_iff_ne, beq_iff_eq, ne_eq, not_true_eq_false, not_false_eq_true, Bool.not_eq_true', decide_eq_false_iff_not, reduceCtorEq, rows_length, pcs_length, er_ok, er_ok', ep_ok, ep_ok', dr_er, dp_ep, isRows_rows, isPcs_pcs, toRows_rows, toPcs_pcs, rows_take, rows_drop, pcs_take, pcs_drop, rows_append, pcs_append, ints_length, isInts_ints, toInts_ints, ei_i, ei_ok, mk_headD, ints_take, ints_drop, ints_append, ints_snoc, ints_snoc', List.take_length, Nat.zero_add, Nat.le_refl, er_a, er_b, er_k, er_n, er_s, er_v, ep_a, ep_b, ep_hk, ep_hn, ep_hs, ep_wk, ep_wn, ep_ws, hk, c]⟩
  · rintro m' ⟨hi, hm1, hm2⟩
    rw [List.drop_length, leftL] at hi
    rw [t90_0]
    exact ⟨x90_0x0 s rn rt (rows rs) kn kt (encL ks) d m' ks.length, by simp, by rw [k90_0x0, fd_leaf, ← hi], by simp only [nd_ok, nd_lab, nd_rows, nd_kids, encL_length, isL_enc, decL_enc, wrap_hd, hd_pos, ld_br, ld_chk', ld_leaf, fd_br, fd_chk', fd_leaf, decide_true, decide_eq_true_eq, if_true, Int.toNat_natCast, Int.natCast_nonneg, Int.ofNat_lt, Int.ofNat_le, Bool.false_eq_true, if_false, bne_iff_ne, beq_iff_eq, ne_eq, not_true_eq_false, not_false_eq_true, Bool.not_eq_true', decide_eq_false_iff_not, reduceCtorEq, rows_length, pcs_length, er_ok, er_ok', ep_ok, ep_ok', dr_er, dp_ep, isRows_rows, isPcs_pcs, toRows_rows, toPcs_pcs, rows_take, rows_drop, pcs_take, pcs_drop, rows_append, pcs_append, ints_length, isInts_ints, toInts_ints, ei_i, ei_ok, mk_headD, ints_take, ints_drop, ints_append, ints_snoc, ints_snoc', List.take_length, Nat.zero_add, Nat.le_refl, er_a, er_b, er_k, er_n, er_s, er_v, ep_a, ep_b, ep_hk, ep_hn, ep_hs, ep_wk, ep_wn, ep_ws, Int.lt_irrefl]⟩
theorem s90_ok : ∀ d, CSpecOk E 90 (s90 d)
  | 0 => by
    intro a h cs vals h' he hc
    unfold s90 at he
    split at he <;> simp only [Option.some.injEq, Prod.mk.injEq, reduceCtorEq] at he
    obtain ⟨rfl, rfl, rfl⟩ := he
    simp [allT] at hc
  | d + 1 => by
    intro a h cs vals h' he hc
    unfold s90 at he
    split at he <;> simp only [Option.some.injEq, Prod.mk.injEq, reduceCtorEq] at he
    rename_i s rn rt xs kn kt ys n k
    obtain ⟨rfl, rfl, rfl⟩ := he
    simp only [allT, Bool.and_true, Bool.and_eq_true, decide_eq_true_eq] at hc
    obtain ⟨h1, h2, h3, h4, h5, h6, h7, h8⟩ := hc
    obtain ⟨rs, rfl⟩ := rows_ex h1
    obtain ⟨ks, rfl⟩ := isL_ex h2
    simp only [toRows_rows, decL_enc] at *
    exact f90 d (s90_ok d) s rn rt rs kn kt ks n k h3 h4 h5 h6 h7 h8
theorem f41 (t : Nd) (rn : OBo) (rt : Bool) (kn : OBo) (kt : Bool) (hl : lensT t = true) :
    call E 41 [.agg [.c (.str t.lab), .c (.sl 5 rn rt (rows t.rows)), .c (.sl 3 kn kt (encL t.kids))]] [] = some ([V.b (smallD t)], []) := by
  have hct : (ctOf [(90, s90 (depL t.kids + 1))]).ok E := ctOf_cons (s90_ok _) ctOf_nil
  refine call_of (E := E) (sh := sh) (ct := ctOf [(90, s90 (depL t.kids + 1))]) (na := 1) (m := 0) hct rfl rfl rfl rfl rfl rfl ?_
  show (p41 (depL t.kids + 1)).fd ((p41 (depL t.kids + 1)).ft _ _) = _
  rw [t41]
  simp only [nd_ok, nd_lab, nd_rows, nd_kids, encL_length, isL_enc, decL_enc, wrap_hd, hd_pos, ld_br, ld_chk', ld_leaf, fd_br, fd_chk', fd_leaf, decide_true, decide_eq_true_eq, if_true, Int.toNat_natCast, Int.natCast_nonneg, Int.ofNat_lt, Int.ofNat_le, Bool.false_eq_true, if_false, bne_iff_ne, beq_iff_eq, ne_eq, not_true_eq_false, not_false_eq_true, Bool.not_eq_true', decide_eq_false_iff_not, reduceCtorEq, rows_length, pcs_length, er_ok, er_ok', ep_ok, ep_ok', dr_er, dp_ep, isRows_rows, isPcs_pcs, toRows_rows, toPcs_pcs, rows_take, rows_drop, pcs_take, pcs_drop, rows_append, pcs_append, ints_length, isInts_ints, toInts_ints, ei_i, ei_ok, mk_headD, ints_take, ints_drop, ints_append, ints_snoc, ints_snoc', List.take_length, Nat.zero_add, Nat.le_refl, er_a, er_b, er_k, er_n, er_s, er_v, ep_a, ep_b, ep_hk, ep_hn, ep_hs, ep_wk, ep_wn, ep_ws, nd_node, show depL t.kids < depL t.kids + 1 by omega, hl, smallD]
theorem s41_ok : CSpecOk E 41 s41 := by
  intro a h cs vals h' he hc
  unfold s41 at he
  split at he <;> simp only [Option.some.injEq, Prod.mk.injEq, reduceCtorEq] at he
  rename_i s rn rt xs kn kt ys
  obtain ⟨rfl, rfl, rfl⟩ := he
  simp only [allT, Bool.and_true, Bool.and_eq_true, decide_eq_true_eq] at hc
  obtain ⟨h1, h2, h3⟩ := hc
  obtain ⟨rs, rfl⟩ := rows_ex h1
  obtain ⟨ks, rfl⟩ := isL_ex h2
  simp only [toRows_rows, decL_enc] at *
  exact f41 (.node s rs ks) rn rt kn kt h3
set_option maxRecDepth 100000 in
theorem f42 : call E 42 [] [] = some ([V.b true], []) := call_iff.2 ⟨200, by kernel_rfl⟩
theorem s42_ok : CSpecOk E 42 s42 := by
  intro a h cs vals h' he hc
  unfold s42 at he
  split at he <;> simp only [Option.some.injEq, Prod.mk.injEq, reduceCtorEq] at he
  obtain ⟨rfl, rfl, rfl⟩ := he
  exact f42
theorem s43_ok : CSpecOk E 43 s43 := by
  intro a h cs vals h' he hc
  unfold s43 at he
  split at he <;> simp only [Option.some.injEq, Prod.mk.injEq, reduceCtorEq] at he
  rename_i s xs ys s2 xs2 ys2 s3 xs3 ys3
  obtain ⟨rfl, rfl, rfl⟩ := he
  simp only [allT, Bool.and_true, Bool.and_eq_true, decide_eq_true_eq] at hc
  obtain ⟨h1, h2, h3, h4, h5, h6, h7, h8, h9⟩ := hc
  obtain ⟨rs, rfl⟩ := rows_ex h1
  obtain ⟨ks, rfl⟩ := isL_ex h2
  obtain ⟨rs2, rfl⟩ := rows_ex h3
  obtain ⟨ks2, rfl⟩ := isL_ex h4
  obtain ⟨rs3, rfl⟩ := rows_ex h5
  obtain ⟨ks3, rfl⟩ := isL_ex h6
  simp only [toRows_rows, decL_enc] at *
  exact f43 (.node s rs ks) (.node s2 rs2 ks2) (.node s3 rs3 ks3) h7 h8 h9
end Go.Proofs.YtgaabjmbnomimaaDoor
namespace Go.Proofs.YtgaabjmbnomimaaDoor
open Go Go.Ev
mutual
theorem leftT_ent : ∀ (t : Nd) (n d : Int), 0 ≤ n → 0 < leftT t n d → ((entT t).length : Int) ≤ n - leftT t n d
  | .node lab rs ks, n, d, h0, h => by
    rw [leftT] at h ⊢
    split at h
    · omega
    · rename_i hc
      rw [if_neg hc]
      have := leftL_ent ks (n - 1 - ((lab.length / 50 : Nat) : Int)) (d - 1) (by omega) h
      have hl := entT_node [] lab rs ks
      rw [pre_nil] at hl
      rw [hl, List.length_append, pre_length]
      have ho : (ownE ([] ++ lab) rs).length ≤ 1 := by unfold ownE; split <;> simp
      omega
theorem leftL_ent : ∀ (l : List Nd) (n d : Int), 0 ≤ n → 0 < leftL l n d → ((entL l).length : Int) ≤ n - leftL l n d
  | [], n, d, h0, h => by rw [leftL, entL]; simp
  | t :: r, n, d, h0, h => by
    rw [leftL] at h ⊢
    split at h
    · rename_i hn
      rw [if_pos hn]
      have hle := leftT_le t n d h0
      have hpos : 0 < leftT t n d := by
        have := (leftL_le r (leftT t n d) d hle.1).2; omega
      have h1 := leftT_ent t n d h0 hpos
      have h2 := leftL_ent r (leftT t n d) d hle.1 h
      rw [entL, List.length_append]
      omega
    · omega
end
theorem small_ent {t : Nd} (h : smallD t = true) : (entL t.kids).length < 1000000000 := by
  simp only [smallD, decide_eq_true_eq] at h
  have h1 := leftT_ent t 200 60 (by omega) h
  have h2 : (entL t.kids).length ≤ (entT t).length := by rw [entT_eq]; simp
  omega
theorem strs_getD {l : List (List UInt8)} {i : Nat} (h : i < l.length) : (strs l).getD i [] = [C.str l[i]] := by simp [strs, List.getD_eq_getElem?_getD, h]
theorem str_ok (p : Bys) : shOk [.str] [C.str p] = true := rfl
theorem str_hd (p : Bys) (d : C) : (([C.str p] : List C).headD d).st = p := rfl
theorem mergeP_lens (a b c : Nd) : lensT (mergeP a b c).1 = true := by
  unfold mergeP
  split
  · split
    · exact okR_lens (mergeT_ok a b c)
    · rfl
  · rfl
end Go.Proofs.YtgaabjmbnomimaaDoor
namespace Go.Proofs.YtgaabjmbnomimaaDoor
open Go Go.Ev
def dE (x : List C) : Ent := ((x.headD .pnil).st, toRows (x.tail.headD .pnil).xs)
def isE (x : List C) : Bool := shOk [.str, .sl 5] x && isRows (x.tail.headD .pnil).xs
def isEs (xs : LLC) : Bool := xs.all isE
def toEs (xs : LLC) : List Ent := xs.map dE
theorem dE_ee (e : Ent) : dE (ee e) = e := by unfold dE; rw [ee_p, ee_r, toRows_rows]
theorem isE_ee (e : Ent) : isE (ee e) = true := by unfold isE; rw [ee_ok, ee_r, isRows_rows]; rfl
theorem isE_of {x : List C} (h : isE x = true) : x = ee (dE x) := by
  simp only [isE, Bool.and_eq_true] at h
  have h4 := shape_ok h.1
  have : ee (dE x) = Go.Ev.shape [.str, .sl 5] x := by
    show [C.str (x.headD .pnil).st, C.sl 5 none false (rows (toRows (x.tail.headD .pnil).xs))] = _
    rw [← rows_of h.2]; rfl
  rw [this]; exact h4.symm
theorem ents_ex {xs : List (List C)} (h : isEs xs = true) : ∃ l, xs = ents l := by
  refine ⟨toEs xs, ?_⟩
  unfold isEs at h
  rw [List.all_eq_true] at h
  unfold ents toEs
  rw [List.map_map]
  conv => lhs; rw [← List.map_id xs]
  exact List.map_congr_left fun x hx => isE_of (h x hx)
theorem isEs_ents (l : List Ent) : isEs (ents l) = true := by simp [isEs, ents, isE_ee]
theorem toEs_ents (l : List Ent) : toEs (ents l) = l := by simp [toEs, ents, dE_ee, Function.comp_def]
def isStr (x : List C) : Bool := shOk [.str] x
def isStrs (xs : LLC) : Bool := xs.all isStr
def toStrs (xs : LLC) : List (List UInt8) := xs.map fun x => (x.headD .pnil).st
theorem strs_ex {xs : List (List C)} (h : isStrs xs = true) : ∃ l, xs = strs l := by
  refine ⟨toStrs xs, ?_⟩
  unfold isStrs at h
  rw [List.all_eq_true] at h
  unfold strs toStrs
  rw [List.map_map]
  conv => lhs; rw [← List.map_id xs]
  exact List.map_congr_left fun x hx => (shape_ok (h x hx)).symm
theorem isStrs_strs (l : List (List UInt8)) : isStrs (strs l) = true := by simp only [isStrs, strs, List.all_map, List.all_eq_true]; intro x _; rfl
theorem toStrs_strs (l : List (List UInt8)) : toStrs (strs l) = l := by simp [toStrs, strs, Function.comp_def, C.st]
def IsN (d : Nat) (l : List Ent) (n : Int) (t : Nd) : Prop := ∃ q m, okT t m = true ∧ q.length + m ≤ 24 ∧ depT t < d ∧ n = (q.length : Nat) ∧ l = pre' q (entT t)
def IsK (d : Nat) (l : List Ent) (n : Int) (ks : List Nd) : Prop := ∃ q m, kidsOk ks m ∧ q.length + m ≤ 24 ∧ depL ks < d ∧ n = (q.length : Nat) ∧ l = pre' q (entL ks)
theorem IsN.uniq {d d' : Nat} {l : List Ent} {n : Int} {t u : Nd} (h : IsN d l n t) (k : IsN d' l n u) : t = u := by
  obtain ⟨q, m, h1, h2, _, h4, h5⟩ := h
  obtain ⟨q', m', k1, k2, _, k4, k5⟩ := k
  have e1 := nodeF_ent t q (sizeT t + sizeT u) m h1 h2 (by omega)
  have e2 := nodeF_ent u q' (sizeT t + sizeT u) m' k1 k2 (by omega)
  rw [← h5] at e1
  rw [← k5] at e2
  have : q.length = q'.length := by omega
  rw [this] at e1
  exact e1.symm.trans e2
theorem IsK.uniq {d d' : Nat} {l : List Ent} {n : Int} {t u : List Nd} (h : IsK d l n t) (k : IsK d' l n u) : t = u := by
  obtain ⟨q, m, h1, h2, _, h4, h5⟩ := h
  obtain ⟨q', m', k1, k2, _, k4, k5⟩ := k
  have e1 := belowF_ent t q (sizeL t + sizeL u) m h1 h2 (by omega)
  have e2 := belowF_ent u q' (sizeL t + sizeL u) m' k1 k2 (by omega)
  rw [← h5] at e1
  rw [← k5] at e2
  have : q.length = q'.length := by omega
  rw [this] at e1
  exact e1.symm.trans e2
open Classical in
noncomputable def hasN (d : Nat) (l : List Ent) (n : Int) : Bool := decide (∃ t, IsN d l n t)
open Classical in
noncomputable def hasK (d : Nat) (l : List Ent) (n : Int) : Bool := decide (∃ t, IsK d l n t)
open Classical in
noncomputable def theN (d : Nat) (l : List Ent) (n : Int) : Nd := if h : ∃ t, IsN d l n t then h.choose else default
open Classical in
noncomputable def theK (d : Nat) (l : List Ent) (n : Int) : List Nd := if h : ∃ t, IsK d l n t then h.choose else []
open Classical in
theorem theN_eq {d : Nat} {l : List Ent} {n : Int} {t : Nd} (h : IsN d l n t) : hasN d l n = true ∧ theN d l n = t := by
  have hx : ∃ t, IsN d l n t := ⟨t, h⟩
  refine ⟨by unfold hasN; exact decide_eq_true hx, ?_⟩
  unfold theN
  rw [dif_pos hx]
  exact hx.choose_spec.uniq h
open Classical in
theorem theK_eq {d : Nat} {l : List Ent} {n : Int} {t : List Nd} (h : IsK d l n t) : hasK d l n = true ∧ theK d l n = t := by
  have hx : ∃ t, IsK d l n t := ⟨t, h⟩
  refine ⟨by unfold hasK; exact decide_eq_true hx, ?_⟩
  unfold theK
  rw [dif_pos hx]
  exact hx.choose_spec.uniq h
open Classical in
theorem hasN_ex {d : Nat} {l : List Ent} {n : Int} (h : hasN d l n = true) : ∃ t, IsN d l n t := by
  unfold hasN at h; exact of_decide_eq_true h
open Classical in
theorem hasK_ex {d : Nat} {l : List Ent} {n : Int} (h : hasK d l n = true) : ∃ t, IsK d l n t := by
  unfold hasK at h; exact of_decide_eq_true h
def insG (put : Bool) (p : Bys) : List (List UInt8) → List (List UInt8)
  | [] => cond put [] [p]
  | x :: r => cond (!put && !Op.bytesLess x p) [p] [] ++ (cond (x == p) [] [x] ++ insG (put || !Op.bytesLess x p) p r)
def pathsF : List (List UInt8) → List Ent → List (List UInt8)
  | out, [] => out
  | out, e :: r => pathsF (insG false e.1 out) r
end Go.Proofs.YtgaabjmbnomimaaDoor
namespace Go.Proofs.YtgaabjmbnomimaaDoor
open Go Go.Ev
-- cse
variable (dd : Nat)
noncomputable abbrev p178 : Par := par E sh (ctOf []) 178 2 0
abbrev s178_0 (nl : OBo) (tt : Bool) (xs : LLC) (n : Int) : Fr × Hp := ([(0, V.c (C.sl 2 nl tt xs)), (5, V.c (C.int IntKind.i64 n))], [])
noncomputable abbrev b178_0 : Code := loopAt (codeOf E (178)) 0
abbrev x178_0x0 (n : Int) : Ex × Fr × Hp := (Ex.ret, [(4, V.c (C.int IntKind.i64 n))], [])
abbrev s178_0_0 (nl : OBo) (tt : Bool) (xs : LLC) (n : Int) (i6 : Int) : Fr × Hp := ([(0, V.c (C.sl 2 nl tt xs)), (5, V.c (C.int IntKind.i64 n)), (6, V.c (C.int IntKind.i64 i6))], [])
noncomputable abbrev b178_0_0 : Code := loopAt b178_0 0
abbrev x178_0_0x0 (n : Int) : Ex × Fr × Hp := (Ex.ret, [(4, V.c (C.int IntKind.i64 n))], [])
abbrev x178_0_0x1 (nl : OBo) (tt : Bool) (xs : LLC) (n : Int) (i6 : Int) : Ex × Fr × Hp := (Ex.exit 2, [(0, V.c (C.sl 2 nl tt xs)), (5, V.c (C.int IntKind.i64 n)), (6, V.c (C.int IntKind.i64 i6)), (23, V.c (C.bool false))], [])
theorem t178_0_0 (nl : OBo) (tt : Bool) (xs : LLC) (n : Int) (i6 : Int) : p178.lts b178_0_0 (s178_0_0 nl tt xs n i6) = (Tr.br (decide (i6 < (↑xs.length : Int))) (Tr.chk (decide (0 ≤ i6)) (Tr.chk true (Tr.chk (decide (i6.toNat < xs.length)) (Tr.chk (shOk [Sk.str, Sk.sl 5] (xs.getD i6.toNat [])) (Tr.br (decide ((↑((xs.getD i6.toNat []).headD C.pnil).st.length : Int) ≤ n)) (Tr.leaf (R.x (x178_0_0x0 n))) (Tr.chk (decide (0 ≤ i6)) (Tr.chk true (Tr.chk (decide (i6.toNat < xs.length)) (Tr.chk (shOk [Sk.str, Sk.sl 5] (xs.getD i6.toNat [])) (Tr.chk (decide (0 ≤ n)) (Tr.chk (decide (n.toNat < ((xs.getD i6.toNat []).headD C.pnil).st.length)) (Tr.chk true (Tr.chk true (Tr.chk (decide (Int.toNat 0 < xs.length)) (Tr.chk (shOk [Sk.str, Sk.sl 5] (xs.getD (Int.toNat 0) [])) (Tr.chk (decide (0 ≤ n)) (Tr.chk (decide (n.toNat < ((xs.getD (Int.toNat 0) []).headD C.pnil).st.length)) (Tr.br ((↑(((xs.getD i6.toNat []).headD C.pnil).st.getD n.toNat 0).toNat : Int) != (↑(((xs.getD (Int.toNat 0) []).headD C.pnil).st.getD n.toNat 0).toNat : Int)) (Tr.leaf (R.x (x178_0_0x0 n))) (Tr.leaf (R.s (s178_0_0 nl tt xs n (IntKind.i64.wrap (i6 + 1))))))))))))))))))))))) (Tr.leaf (R.x (x178_0_0x1 nl tt xs n i6)))) := by kernel_rfl
theorem k178_0_0x0 (n : Int) : p178.lkx b178_0 0 (x178_0_0x0 n) = (Tr.leaf (R.x (x178_0x0 n))) := by kernel_rfl
theorem k178_0_0x1 (nl : OBo) (tt : Bool) (xs : LLC) (n : Int) (i6 : Int) : p178.lkx b178_0 0 (x178_0_0x1 nl tt xs n i6) = (Tr.leaf (R.s (s178_0 nl tt xs (IntKind.i64.wrap (n + 1))))) := by kernel_rfl
theorem t178_0 (nl : OBo) (tt : Bool) (xs : LLC) (n : Int) : p178.lts b178_0 (s178_0 nl tt xs n) = (Tr.chk true (Tr.chk true (Tr.chk (decide (Int.toNat 0 < xs.length)) (Tr.chk (shOk [Sk.str, Sk.sl 5] (xs.getD (Int.toNat 0) [])) (Tr.br (decide ((↑((xs.getD (Int.toNat 0) []).headD C.pnil).st.length : Int) ≤ n)) (Tr.leaf (R.x (x178_0x0 n))) (Tr.br (decide (24 ≤ n)) (Tr.leaf (R.x (x178_0x0 n))) (Tr.ls 0 (s178_0_0 nl tt xs n (0))))))))) := by kernel_rfl
theorem k178_0x0 (n : Int) : p178.fkx 0 (x178_0x0 n) = (Tr.leaf (R.out [V.c (C.int IntKind.i64 n)] [])) := by kernel_rfl
theorem t178 (nl : OBo) (tt : Bool) (xs : LLC) (n : Int) : p178.ft ([V.c (C.sl 2 nl tt xs), V.i n]) ([]) = (Tr.ls 0 (s178_0 nl tt xs n)) := by kernel_rfl
def s178 : CSpec := fun a h => match a, h with
  | [.c (.sl 2 nl tt xs), .c (.int .i64 n)], [] => some ([isEs xs, decide (xs ≠ []), decide (xs.length < 4294967296), decide (0 ≤ n), decide (n ≤ 24)], [V.i ((commonL (toEs xs) n.toNat : Nat) : Int)], [])
  | _, _ => none
noncomputable def s132 : CSpec := fun a h => match a, h with
  | [.c (.sl 2 nl tt xs), .c (.int .i64 n)], [] => some ([isEs xs, decide (xs.length < 4294967295), hasK dd (toEs xs) n], [.c (.sl 3 none false (encL (theK dd (toEs xs) n)))], [])
  | _, _ => none
noncomputable abbrev p164 : Par := par E sh (ctOf [(178, s178), (132, s132 dd)]) 164 2 0
theorem t164 (nl : OBo) (tt : Bool) (xs : LLC) (n : Int) : (p164 dd).ft ([V.c (C.sl 2 nl tt xs), V.i n]) ([]) = (Tr.chk (isEs xs) (Tr.chk (decide (xs ≠ [])) (Tr.chk (decide (xs.length < 4294967296)) (Tr.chk (decide (0 ≤ n)) (Tr.chk (decide (n ≤ 24)) (Tr.chk true (Tr.chk true (Tr.chk (decide (Int.toNat 0 < xs.length)) (Tr.chk (shOk [Sk.str, Sk.sl 5] (xs.getD (Int.toNat 0) [])) (Tr.chk (decide (0 ≤ n)) (Tr.chk true (Tr.chk (decide (n.toNat ≤ (↑(commonL (toEs xs) n.toNat) : Int).toNat)) (Tr.chk (decide ((↑(commonL (toEs xs) n.toNat) : Int).toNat ≤ ((xs.getD (Int.toNat 0) []).headD C.pnil).st.length)) (Tr.chk true (Tr.chk true (Tr.chk (decide (Int.toNat 0 < xs.length)) (Tr.chk (shOk [Sk.str, Sk.sl 5] (xs.getD (Int.toNat 0) [])) (Tr.br ((↑((xs.getD (Int.toNat 0) []).headD C.pnil).st.length : Int) == (↑(commonL (toEs xs) n.toNat) : Int)) (Tr.chk true (Tr.chk true (Tr.chk (decide (Int.toNat 0 < xs.length)) (Tr.chk (shOk [Sk.str, Sk.sl 5] (xs.getD (Int.toNat 0) [])) (Tr.chk true (Tr.chk (decide (Int.toNat 1 ≤ xs.length)) (Tr.chk (decide (xs.length ≤ xs.length)) (Tr.chk true (Tr.chk (isEs (List.drop (Int.toNat 1) (List.take xs.length xs))) (Tr.chk (decide ((List.drop (Int.toNat 1) (List.take xs.length xs)).length < 4294967295)) (Tr.chk (hasK dd (toEs (List.drop (Int.toNat 1) (List.take xs.length xs))) (↑(commonL (toEs xs) n.toNat) : Int)) (Tr.leaf (R.out [V.agg [V.c (C.str (List.drop n.toNat (List.take (↑(commonL (toEs xs) n.toNat) : Int).toNat ((xs.getD (Int.toNat 0) []).headD C.pnil).st))), V.c (C.sl 5 none false ((xs.getD (Int.toNat 0) []).tail.headD C.pnil).xs), V.c (C.sl 3 none false (encL (theK dd (toEs (List.drop (Int.toNat 1) (List.take xs.length xs))) (↑(commonL (toEs xs) n.toNat) : Int))))]] []))))))))))))) (Tr.chk (isEs xs) (Tr.chk (decide (xs.length < 4294967295)) (Tr.chk (hasK dd (toEs xs) (↑(commonL (toEs xs) n.toNat) : Int)) (Tr.leaf (R.out [V.agg [V.c (C.str (List.drop n.toNat (List.take (↑(commonL (toEs xs) n.toNat) : Int).toNat ((xs.getD (Int.toNat 0) []).headD C.pnil).st))), V.c (C.sl 5 none false []), V.c (C.sl 3 none false (encL (theK dd (toEs xs) (↑(commonL (toEs xs) n.toNat) : Int))))]] []))))))))))))))))))))))) := by kernel_rfl
noncomputable def s164 : CSpec := fun a h => match a, h with
  | [.c (.sl 2 nl tt xs), .c (.int .i64 n)], [] => some ([isEs xs, decide (xs.length < 4294967295), hasN (dd + 1) (toEs xs) n], [VT (theN (dd + 1) (toEs xs) n)], [])
  | _, _ => none
noncomputable abbrev p132 : Par := par E sh (ctOf [(164, s164 dd)]) 132 2 0
abbrev s132_0 (nl0 : OBo) (t0 : Bool) (xs0 : LLC) (i1 : Int) (n5 : Nat) (i6 : Int) (ys0 : LLC) : Fr × Hp := ([(0, V.c (C.sl 2 nl0 t0 xs0)), (1, V.c (C.int IntKind.i64 i1)), (5, V.buf 0 0 0 n5), (6, V.c (C.int IntKind.i64 i6))], [O.mem 3 0 ys0])
noncomputable abbrev b132_0 : Code := loopAt (codeOf E (132)) 0
abbrev s132_0_0 (nl0_1 : OBo) (t0_1 : Bool) (xs0_1 : LLC) (i1_1 : Int) (n5_1 : Nat) (i6_1 : Int) (i7 : Int) (ys0_1 : LLC) : Fr × Hp := ([(0, V.c (C.sl 2 nl0_1 t0_1 xs0_1)), (1, V.c (C.int IntKind.i64 i1_1)), (5, V.buf 0 0 0 n5_1), (6, V.c (C.int IntKind.i64 i6_1)), (7, V.c (C.int IntKind.i64 i7))], [O.mem 3 0 ys0_1])
noncomputable abbrev b132_0_0 : Code := loopAt b132_0 0
abbrev x132_0_0x0 (nl0_1 : OBo) (t0_1 : Bool) (xs0_1 : LLC) (i1_1 : Int) (n5_1 : Nat) (i6_1 : Int) (i7 : Int) (ys0_1 : LLC) : Ex × Fr × Hp := (Ex.exit 2, [(0, V.c (C.sl 2 nl0_1 t0_1 xs0_1)), (1, V.c (C.int IntKind.i64 i1_1)), (5, V.buf 0 0 0 n5_1), (6, V.c (C.int IntKind.i64 i6_1)), (7, V.c (C.int IntKind.i64 i7)), (33, V.c (C.bool false))], [O.mem 3 0 ys0_1])
abbrev x132_0x0 (nl0 : OBo) (t0 : Bool) (xs0 : LLC) (i1 : Int) (n5 : Nat) (i6 : Int) (ys0 : LLC) : Ex × Fr × Hp := (Ex.exit 0, [(0, V.c (C.sl 2 nl0 t0 xs0)), (1, V.c (C.int IntKind.i64 i1)), (5, V.buf 0 0 0 n5), (6, V.c (C.int IntKind.i64 i6)), (11, V.c (C.bool false))], [O.mem 3 0 ys0])
theorem t132_0_0 (nl0_1 : OBo) (t0_1 : Bool) (xs0_1 : LLC) (i1_1 : Int) (n5_1 : Nat) (i6_1 : Int) (i7 : Int) (ys0_1 : LLC) : (p132 dd).lts b132_0_0 (s132_0_0 nl0_1 t0_1 xs0_1 i1_1 n5_1 i6_1 i7 ys0_1) = (Tr.br (decide (i7 < (↑xs0_1.length : Int))) (Tr.chk (decide (0 ≤ i7)) (Tr.chk true (Tr.chk (decide (i7.toNat < xs0_1.length)) (Tr.chk (shOk [Sk.str, Sk.sl 5] (xs0_1.getD i7.toNat [])) (Tr.chk (decide (0 ≤ i1_1)) (Tr.chk (decide (i1_1.toNat < ((xs0_1.getD i7.toNat []).headD C.pnil).st.length)) (Tr.chk (decide (0 ≤ i6_1)) (Tr.chk true (Tr.chk (decide (i6_1.toNat < xs0_1.length)) (Tr.chk (shOk [Sk.str, Sk.sl 5] (xs0_1.getD i6_1.toNat [])) (Tr.chk (decide (0 ≤ i1_1)) (Tr.chk (decide (i1_1.toNat < ((xs0_1.getD i6_1.toNat []).headD C.pnil).st.length)) (Tr.br ((↑(((xs0_1.getD i7.toNat []).headD C.pnil).st.getD i1_1.toNat 0).toNat : Int) == (↑(((xs0_1.getD i6_1.toNat []).headD C.pnil).st.getD i1_1.toNat 0).toNat : Int)) (Tr.leaf (R.s (s132_0_0 nl0_1 t0_1 xs0_1 i1_1 n5_1 i6_1 (IntKind.i64.wrap (i7 + 1)) ys0_1))) (Tr.leaf (R.x (x132_0_0x0 nl0_1 t0_1 xs0_1 i1_1 n5_1 i6_1 i7 ys0_1)))))))))))))))) (Tr.leaf (R.x (x132_0_0x0 nl0_1 t0_1 xs0_1 i1_1 n5_1 i6_1 i7 ys0_1)))) := by kernel_rfl
theorem k132_0_0x0 (dd : Nat) (nl0_1 : OBo) (t0_1 : Bool) (xs0_1 : LLC) (i1_1 : Int) (n5_1 : Nat) (i6_1 : Int) (i7 : Int) (ys0_1 : LLC) : (p132 dd).lkx b132_0 0 (x132_0_0x0 nl0_1 t0_1 xs0_1 i1_1 n5_1 i6_1 i7 ys0_1) = (Tr.chk (decide (0 ≤ i6_1)) (Tr.chk (decide (0 ≤ i7)) (Tr.chk (decide (i6_1.toNat ≤ i7.toNat)) (Tr.chk (decide (i7.toNat ≤ xs0_1.length)) (Tr.chk true (Tr.chk (isEs (List.drop i6_1.toNat (List.take i7.toNat xs0_1))) (Tr.chk (decide ((List.drop i6_1.toNat (List.take i7.toNat xs0_1)).length < 4294967295)) (Tr.chk (hasN (dd + 1) (toEs (List.drop i6_1.toNat (List.take i7.toNat xs0_1))) i1_1) (Tr.chk true (Tr.chk true (Tr.chk (decide (n5_1 + 1 < 4294967296)) (Tr.chk true (Tr.leaf (R.s (s132_0 nl0_1 t0_1 xs0_1 i1_1 (n5_1 + 1) i7 (List.take n5_1 ys0_1 ++ [[C.str (theN (dd + 1) (toEs (List.drop i6_1.toNat (List.take i7.toNat xs0_1))) i1_1).lab, C.sl 5 none false (rows (theN (dd + 1) (toEs (List.drop i6_1.toNat (List.take i7.toNat xs0_1))) i1_1).rows), C.sl 3 none false (encL (theN (dd + 1) (toEs (List.drop i6_1.toNat (List.take i7.toNat xs0_1))) i1_1).kids)]])))))))))))))))) := by kernel_rfl
theorem t132_0 (nl0 : OBo) (t0 : Bool) (xs0 : LLC) (i1 : Int) (n5 : Nat) (i6 : Int) (ys0 : LLC) : (p132 dd).lts b132_0 (s132_0 nl0 t0 xs0 i1 n5 i6 ys0) = (Tr.br (decide (i6 < (↑xs0.length : Int))) (Tr.ls 0 (s132_0_0 nl0 t0 xs0 i1 n5 i6 i6 ys0)) (Tr.leaf (R.x (x132_0x0 nl0 t0 xs0 i1 n5 i6 ys0)))) := by kernel_rfl
theorem k132_0x0 (dd : Nat) (nl0 : OBo) (t0 : Bool) (xs0 : LLC) (i1 : Int) (n5 : Nat) (i6 : Int) (ys0 : LLC) : (p132 dd).fkx 0 (x132_0x0 nl0 t0 xs0 i1 n5 i6 ys0) = (Tr.leaf (R.out [V.c (C.sl 3 none false (List.take n5 ys0))] [])) := by kernel_rfl
theorem t132 (nl : OBo) (tt : Bool) (xs : LLC) (n : Int) : (p132 dd).ft ([V.c (C.sl 2 nl tt xs), V.i n]) ([]) = (Tr.ls 0 (s132_0 nl tt xs n (0) (0) ([]))) := by kernel_rfl
noncomputable abbrev p79 : Par := par E sh (ctOf [(132, s132 dd)]) 79 1 0
theorem t79 (nl : OBo) (tt : Bool) (xs : LLC) : (p79 dd).ft ([V.c (C.sl 2 nl tt xs)]) ([]) = (Tr.chk (isEs xs) (Tr.chk (decide (xs.length < 4294967295)) (Tr.chk (hasK dd (toEs xs) 0) (Tr.leaf (R.out [V.agg [V.c (C.str []), V.c (C.sl 5 none false []), V.c (C.sl 3 none false (encL (theK dd (toEs xs) 0)))]] []))))) := by kernel_rfl
noncomputable abbrev p96 : Par := par E sh (ctOf []) 96 2 0
abbrev s96_0 (nl0 : OBo) (t0 : Bool) (xs0 : LLC) (nl1 : OBo) (t1 : Bool) (xs1 : LLC) (i5 : Int) : Fr × Hp := ([(0, V.c (C.sl 1 nl0 t0 xs0)), (1, V.c (C.sl 2 nl1 t1 xs1)), (5, V.c (C.int IntKind.i64 i5))], [])
noncomputable abbrev b96_0 : Code := loopAt (codeOf E (96)) 0
abbrev s96_0_0 (nl0_1 : OBo) (t0_1 : Bool) (xs0_1 : LLC) (nl1_1 : OBo) (t1_1 : Bool) (xs1_1 : LLC) (i5_1 : Int) (n6 : Nat) (b7 : Bool) (i8 : Int) (ys0 : LLC) : Fr × Hp := ([(0, V.c (C.sl 1 nl0_1 t0_1 xs0_1)), (1, V.c (C.sl 2 nl1_1 t1_1 xs1_1)), (5, V.c (C.int IntKind.i64 i5_1)), (6, V.buf 0 0 0 n6), (7, V.c (C.bool b7)), (8, V.c (C.int IntKind.i64 i8))], [O.mem 1 0 ys0])
noncomputable abbrev b96_0_0 : Code := loopAt b96_0 0
abbrev x96_0_0x0 (nl0_1 : OBo) (t0_1 : Bool) (xs0_1 : LLC) (nl1_1 : OBo) (t1_1 : Bool) (xs1_1 : LLC) (i5_1 : Int) (n6 : Nat) (b7 : Bool) (i8 : Int) (ys0 : LLC) : Ex × Fr × Hp := (Ex.exit 2, [(0, V.c (C.sl 1 nl0_1 t0_1 xs0_1)), (1, V.c (C.sl 2 nl1_1 t1_1 xs1_1)), (5, V.c (C.int IntKind.i64 i5_1)), (6, V.buf 0 0 0 n6), (7, V.c (C.bool b7)), (8, V.c (C.int IntKind.i64 i8)), (18, V.c (C.bool false))], [O.mem 1 0 ys0])
abbrev x96_0x0 (nl0 : OBo) (t0 : Bool) (xs0 : LLC) (nl1 : OBo) (t1 : Bool) (xs1 : LLC) (i5 : Int) : Ex × Fr × Hp := (Ex.exit 0, [(0, V.c (C.sl 1 nl0 t0 xs0)), (1, V.c (C.sl 2 nl1 t1 xs1)), (5, V.c (C.int IntKind.i64 i5)), (12, V.c (C.bool false))], [])
theorem t96_0_0 (nl0_1 : OBo) (t0_1 : Bool) (xs0_1 : LLC) (nl1_1 : OBo) (t1_1 : Bool) (xs1_1 : LLC) (i5_1 : Int) (n6 : Nat) (b7 : Bool) (i8 : Int) (ys0 : LLC) : p96.lts b96_0_0 (s96_0_0 nl0_1 t0_1 xs0_1 nl1_1 t1_1 xs1_1 i5_1 n6 b7 i8 ys0) = (Tr.br (decide (i8 < (↑xs0_1.length : Int))) (Tr.br (!b7) (Tr.chk (decide (0 ≤ i8)) (Tr.chk true (Tr.chk (decide (i8.toNat < xs0_1.length)) (Tr.chk (shOk [Sk.str] (xs0_1.getD i8.toNat [])) (Tr.chk (decide (0 ≤ i5_1)) (Tr.chk true (Tr.chk (decide (i5_1.toNat < xs1_1.length)) (Tr.chk (shOk [Sk.str, Sk.sl 5] (xs1_1.getD i5_1.toNat [])) (Tr.br (!Op.bytesLess ((xs0_1.getD i8.toNat []).headD C.pnil).st ((xs1_1.getD i5_1.toNat []).headD C.pnil).st) (Tr.chk (decide (0 ≤ i5_1)) (Tr.chk true (Tr.chk (decide (i5_1.toNat < xs1_1.length)) (Tr.chk (shOk [Sk.str, Sk.sl 5] (xs1_1.getD i5_1.toNat [])) (Tr.chk true (Tr.chk true (Tr.chk (decide (n6 + 1 < 4294967296)) (Tr.chk true (Tr.chk (decide (0 ≤ i8)) (Tr.chk true (Tr.chk (decide (i8.toNat < xs0_1.length)) (Tr.chk (shOk [Sk.str] (xs0_1.getD i8.toNat [])) (Tr.chk (decide (0 ≤ i5_1)) (Tr.chk true (Tr.chk (decide (i5_1.toNat < xs1_1.length)) (Tr.chk (shOk [Sk.str, Sk.sl 5] (xs1_1.getD i5_1.toNat [])) (Tr.br (!((xs0_1.getD i8.toNat []).headD C.pnil).st == ((xs1_1.getD i5_1.toNat []).headD C.pnil).st) (Tr.chk (decide (0 ≤ i8)) (Tr.chk true (Tr.chk (decide (i8.toNat < xs0_1.length)) (Tr.chk (shOk [Sk.str] (xs0_1.getD i8.toNat [])) (Tr.chk true (Tr.chk true (Tr.chk (decide (n6 + 1 + 1 < 4294967296)) (Tr.chk true (Tr.leaf (R.s (s96_0_0 nl0_1 t0_1 xs0_1 nl1_1 t1_1 xs1_1 i5_1 (n6 + 1 + 1) true (IntKind.i64.wrap (i8 + 1)) (List.take (n6 + 1) (List.take n6 ys0 ++ [[Sk.str.mk ((xs1_1.getD i5_1.toNat []).headD C.pnil)]]) ++ [[Sk.str.mk ((xs0_1.getD i8.toNat []).headD C.pnil)]])))))))))))) (Tr.leaf (R.s (s96_0_0 nl0_1 t0_1 xs0_1 nl1_1 t1_1 xs1_1 i5_1 (n6 + 1) true (IntKind.i64.wrap (i8 + 1)) (List.take n6 ys0 ++ [[Sk.str.mk ((xs1_1.getD i5_1.toNat []).headD C.pnil)]]))))))))))))))))))))) (Tr.chk (decide (0 ≤ i8)) (Tr.chk true (Tr.chk (decide (i8.toNat < xs0_1.length)) (Tr.chk (shOk [Sk.str] (xs0_1.getD i8.toNat [])) (Tr.chk (decide (0 ≤ i5_1)) (Tr.chk true (Tr.chk (decide (i5_1.toNat < xs1_1.length)) (Tr.chk (shOk [Sk.str, Sk.sl 5] (xs1_1.getD i5_1.toNat [])) (Tr.br (!((xs0_1.getD i8.toNat []).headD C.pnil).st == ((xs1_1.getD i5_1.toNat []).headD C.pnil).st) (Tr.chk (decide (0 ≤ i8)) (Tr.chk true (Tr.chk (decide (i8.toNat < xs0_1.length)) (Tr.chk (shOk [Sk.str] (xs0_1.getD i8.toNat [])) (Tr.chk true (Tr.chk true (Tr.chk (decide (n6 + 1 < 4294967296)) (Tr.chk true (Tr.leaf (R.s (s96_0_0 nl0_1 t0_1 xs0_1 nl1_1 t1_1 xs1_1 i5_1 (n6 + 1) b7 (IntKind.i64.wrap (i8 + 1)) (List.take n6 ys0 ++ [[Sk.str.mk ((xs0_1.getD i8.toNat []).headD C.pnil)]])))))))))))) (Tr.leaf (R.s (s96_0_0 nl0_1 t0_1 xs0_1 nl1_1 t1_1 xs1_1 i5_1 n6 b7 (IntKind.i64.wrap (i8 + 1)) ys0))))))))))))))))))))) (Tr.chk (decide (0 ≤ i8)) (Tr.chk true (Tr.chk (decide (i8.toNat < xs0_1.length)) (Tr.chk (shOk [Sk.str] (xs0_1.getD i8.toNat [])) (Tr.chk (decide (0 ≤ i5_1)) (Tr.chk true (Tr.chk (decide (i5_1.toNat < xs1_1.length)) (Tr.chk (shOk [Sk.str, Sk.sl 5] (xs1_1.getD i5_1.toNat [])) (Tr.br (!((xs0_1.getD i8.toNat []).headD C.pnil).st == ((xs1_1.getD i5_1.toNat []).headD C.pnil).st) (Tr.chk (decide (0 ≤ i8)) (Tr.chk true (Tr.chk (decide (i8.toNat < xs0_1.length)) (Tr.chk (shOk [Sk.str] (xs0_1.getD i8.toNat [])) (Tr.chk true (Tr.chk true (Tr.chk (decide (n6 + 1 < 4294967296)) (Tr.chk true (Tr.leaf (R.s (s96_0_0 nl0_1 t0_1 xs0_1 nl1_1 t1_1 xs1_1 i5_1 (n6 + 1) b7 (IntKind.i64.wrap (i8 + 1)) (List.take n6 ys0 ++ [[Sk.str.mk ((xs0_1.getD i8.toNat []).headD C.pnil)]])))))))))))) (Tr.leaf (R.s (s96_0_0 nl0_1 t0_1 xs0_1 nl1_1 t1_1 xs1_1 i5_1 n6 b7 (IntKind.i64.wrap (i8 + 1)) ys0))))))))))))) (Tr.leaf (R.x (x96_0_0x0 nl0_1 t0_1 xs0_1 nl1_1 t1_1 xs1_1 i5_1 n6 b7 i8 ys0)))) := by kernel_rfl
theorem k96_0_0x0 (nl0_1 : OBo) (t0_1 : Bool) (xs0_1 : LLC) (nl1_1 : OBo) (t1_1 : Bool) (xs1_1 : LLC) (i5_1 : Int) (n6 : Nat) (b7 : Bool) (i8 : Int) (ys0 : LLC) : p96.lkx b96_0 0 (x96_0_0x0 nl0_1 t0_1 xs0_1 nl1_1 t1_1 xs1_1 i5_1 n6 b7 i8 ys0) = (Tr.br (!b7) (Tr.chk (decide (0 ≤ i5_1)) (Tr.chk true (Tr.chk (decide (i5_1.toNat < xs1_1.length)) (Tr.chk (shOk [Sk.str, Sk.sl 5] (xs1_1.getD i5_1.toNat [])) (Tr.chk true (Tr.chk true (Tr.chk (decide (n6 + 1 < 4294967296)) (Tr.chk true (Tr.leaf (R.st Ex.nrm [(0, V.buf 0 0 0 (n6 + 1)), (1, V.c (C.sl 2 nl1_1 t1_1 xs1_1)), (5, V.c (C.int IntKind.i64 (IntKind.i64.wrap (i5_1 + 1))))] [O.mem 1 0 (List.take n6 ys0 ++ [[Sk.str.mk ((xs1_1.getD i5_1.toNat []).headD C.pnil)]])])))))))))) (Tr.leaf (R.st Ex.nrm [(0, V.buf 0 0 0 n6), (1, V.c (C.sl 2 nl1_1 t1_1 xs1_1)), (5, V.c (C.int IntKind.i64 (IntKind.i64.wrap (i5_1 + 1))))] [O.mem 1 0 ys0]))) := by kernel_rfl
theorem t96_0 (nl0 : OBo) (t0 : Bool) (xs0 : LLC) (nl1 : OBo) (t1 : Bool) (xs1 : LLC) (i5 : Int) : p96.lts b96_0 (s96_0 nl0 t0 xs0 nl1 t1 xs1 i5) = (Tr.br (decide (i5 < (↑xs1.length : Int))) (Tr.ls 0 (s96_0_0 nl0 t0 xs0 nl1 t1 xs1 i5 (0) false (0) ([]))) (Tr.leaf (R.x (x96_0x0 nl0 t0 xs0 nl1 t1 xs1 i5)))) := by kernel_rfl
theorem k96_0x0 (nl0 : OBo) (t0 : Bool) (xs0 : LLC) (nl1 : OBo) (t1 : Bool) (xs1 : LLC) (i5 : Int) : p96.fkx 0 (x96_0x0 nl0 t0 xs0 nl1 t1 xs1 i5) = (Tr.leaf (R.out [V.c (C.sl 1 none false xs0)] [])) := by kernel_rfl
theorem t96 (nl : OBo) (tt : Bool) (xs : LLC) (n2 : OBo) (t2 : Bool) (ys : LLC) : p96.ft ([V.c (C.sl 1 nl tt xs), V.c (C.sl 2 n2 t2 ys)]) ([]) = (Tr.ls 0 (s96_0 nl tt xs n2 t2 ys (0))) := by kernel_rfl
end Go.Proofs.YtgaabjmbnomimaaDoor
namespace Go.Proofs.YtgaabjmbnomimaaDoor
open Go Go.Ev
-- cse
abbrev sO96 (m : Nat) (xs : LLC) (nl : OBo) (tt : Bool) (ys : LLC) (i : Int) : Fr × Hp := ([(0, V.buf 0 0 0 m), (1, V.c (C.sl 2 nl tt ys)), (5, V.c (C.int IntKind.i64 i))], [O.mem 1 0 xs])
abbrev xO96 (m : Nat) (xs : LLC) (nl : OBo) (tt : Bool) (ys : LLC) (i : Int) : Ex × Fr × Hp := (Ex.exit 0, [(0, V.buf 0 0 0 m), (1, V.c (C.sl 2 nl tt ys)), (5, V.c (C.int IntKind.i64 i)), (12, V.c (C.bool false))], [O.mem 1 0 xs])
abbrev sO96_0 (m : Nat) (xs : LLC) (nl : OBo) (tt : Bool) (ys : LLC) (i : Int) (n6 : Nat) (b7 : Bool) (i8 : Int) (ys1 : LLC) : Fr × Hp := ([(0, V.buf 0 0 0 m), (1, V.c (C.sl 2 nl tt ys)), (5, V.c (C.int IntKind.i64 i)), (6, V.buf 1 0 0 n6), (7, V.c (C.bool b7)), (8, V.c (C.int IntKind.i64 i8))], [O.mem 1 0 xs, O.mem 1 0 ys1])
noncomputable abbrev bO96_0 : Code := loopAt (loopAt (codeOf E (96)) 0) 0
abbrev xO96_0x0 (m : Nat) (xs : LLC) (nl : OBo) (tt : Bool) (ys : LLC) (i : Int) (n6 : Nat) (b7 : Bool) (i8 : Int) (ys1 : LLC) : Ex × Fr × Hp := (Ex.exit 2, [(0, V.buf 0 0 0 m), (1, V.c (C.sl 2 nl tt ys)), (5, V.c (C.int IntKind.i64 i)), (6, V.buf 1 0 0 n6), (7, V.c (C.bool b7)), (8, V.c (C.int IntKind.i64 i8)), (18, V.c (C.bool false))], [O.mem 1 0 xs, O.mem 1 0 ys1])
abbrev xO96x0 (m : Nat) (xs : LLC) (nl : OBo) (tt : Bool) (ys : LLC) (i : Int) : Ex × Fr × Hp := (Ex.exit 0, [(0, V.buf 0 0 0 m), (1, V.c (C.sl 2 nl tt ys)), (5, V.c (C.int IntKind.i64 i)), (12, V.c (C.bool false))], [O.mem 1 0 xs])
abbrev cO96_0_1 (xs : LLC) (i8 : Int) := (List.take 1 (xs.getD (0 + i8.toNat) []))
theorem tO96_0 (m : Nat) (xs : LLC) (nl : OBo) (tt : Bool) (ys : LLC) (i : Int) (n6 : Nat) (b7 : Bool) (i8 : Int) (ys1 : LLC) : p96.lts bO96_0 (sO96_0 m xs nl tt ys i n6 b7 i8 ys1) = (Tr.chk true (Tr.br (decide (i8 < (↑m : Int))) (Tr.br (!b7) (Tr.chk (decide (0 ≤ i8)) (Tr.chk (decide (i8 < (↑m : Int))) (Tr.chk true (Tr.chk true (Tr.chk true (Tr.chk (decide (0 + i8.toNat < xs.length)) (Tr.chk (decide (1 ≤ (xs.getD (0 + i8.toNat) []).length)) (Tr.chk (shOk [Sk.str] (cO96_0_1 xs i8)) (Tr.chk (decide (0 ≤ i)) (Tr.chk true (Tr.chk (decide (i.toNat < ys.length)) (Tr.chk (shOk [Sk.str, Sk.sl 5] (ys.getD i.toNat [])) (Tr.br (!Op.bytesLess ((cO96_0_1 xs i8).headD C.pnil).st ((ys.getD i.toNat []).headD C.pnil).st) (Tr.chk (decide (0 ≤ i)) (Tr.chk true (Tr.chk (decide (i.toNat < ys.length)) (Tr.chk (shOk [Sk.str, Sk.sl 5] (ys.getD i.toNat [])) (Tr.chk true (Tr.chk true (Tr.chk (decide (n6 + 1 < 4294967296)) (Tr.chk true (Tr.chk (decide (0 ≤ i8)) (Tr.chk (decide (i8 < (↑m : Int))) (Tr.chk true (Tr.chk true (Tr.chk true (Tr.chk (decide (0 + i8.toNat < xs.length)) (Tr.chk (decide (1 ≤ (xs.getD (0 + i8.toNat) []).length)) (Tr.chk (shOk [Sk.str] (cO96_0_1 xs i8)) (Tr.chk (decide (0 ≤ i)) (Tr.chk true (Tr.chk (decide (i.toNat < ys.length)) (Tr.chk (shOk [Sk.str, Sk.sl 5] (ys.getD i.toNat [])) (Tr.br (!((cO96_0_1 xs i8).headD C.pnil).st == ((ys.getD i.toNat []).headD C.pnil).st) (Tr.chk (decide (0 ≤ i8)) (Tr.chk (decide (i8 < (↑m : Int))) (Tr.chk true (Tr.chk true (Tr.chk true (Tr.chk (decide (0 + i8.toNat < xs.length)) (Tr.chk (decide (1 ≤ (xs.getD (0 + i8.toNat) []).length)) (Tr.chk (shOk [Sk.str] (cO96_0_1 xs i8)) (Tr.chk true (Tr.chk true (Tr.chk (decide (n6 + 1 + 1 < 4294967296)) (Tr.chk true (Tr.leaf (R.s (sO96_0 m xs nl tt ys i (n6 + 1 + 1) true (IntKind.i64.wrap (i8 + 1)) (List.take (n6 + 1) (List.take n6 ys1 ++ [[Sk.str.mk ((ys.getD i.toNat []).headD C.pnil)]]) ++ [[Sk.str.mk ((cO96_0_1 xs i8).headD C.pnil)]])))))))))))))))) (Tr.leaf (R.s (sO96_0 m xs nl tt ys i (n6 + 1) true (IntKind.i64.wrap (i8 + 1)) (List.take n6 ys1 ++ [[Sk.str.mk ((ys.getD i.toNat []).headD C.pnil)]]))))))))))))))))))))))))) (Tr.chk (decide (0 ≤ i8)) (Tr.chk (decide (i8 < (↑m : Int))) (Tr.chk true (Tr.chk true (Tr.chk true (Tr.chk (decide (0 + i8.toNat < xs.length)) (Tr.chk (decide (1 ≤ (xs.getD (0 + i8.toNat) []).length)) (Tr.chk (shOk [Sk.str] (cO96_0_1 xs i8)) (Tr.chk (decide (0 ≤ i)) (Tr.chk true (Tr.chk (decide (i.toNat < ys.length)) (Tr.chk (shOk [Sk.str, Sk.sl 5] (ys.getD i.toNat [])) (Tr.br (!((cO96_0_1 xs i8).headD C.pnil).st == ((ys.getD i.toNat []).headD C.pnil).st) (Tr.chk (decide (0 ≤ i8)) (Tr.chk (decide (i8 < (↑m : Int))) (Tr.chk true (Tr.chk true (Tr.chk true (Tr.chk (decide (0 + i8.toNat < xs.length)) (Tr.chk (decide (1 ≤ (xs.getD (0 + i8.toNat) []).length)) (Tr.chk (shOk [Sk.str] (cO96_0_1 xs i8)) (Tr.chk true (Tr.chk true (Tr.chk (decide (n6 + 1 < 4294967296)) (Tr.chk true (Tr.leaf (R.s (sO96_0 m xs nl tt ys i (n6 + 1) b7 (IntKind.i64.wrap (i8 + 1)) (List.take n6 ys1 ++ [[Sk.str.mk ((cO96_0_1 xs i8).headD C.pnil)]])))))))))))))))) (Tr.leaf (R.s (sO96_0 m xs nl tt ys i n6 b7 (IntKind.i64.wrap (i8 + 1)) ys1))))))))))))))))))))))))))))) (Tr.chk (decide (0 ≤ i8)) (Tr.chk (decide (i8 < (↑m : Int))) (Tr.chk true (Tr.chk true (Tr.chk true (Tr.chk (decide (0 + i8.toNat < xs.length)) (Tr.chk (decide (1 ≤ (xs.getD (0 + i8.toNat) []).length)) (Tr.chk (shOk [Sk.str] (cO96_0_1 xs i8)) (Tr.chk (decide (0 ≤ i)) (Tr.chk true (Tr.chk (decide (i.toNat < ys.length)) (Tr.chk (shOk [Sk.str, Sk.sl 5] (ys.getD i.toNat [])) (Tr.br (!((cO96_0_1 xs i8).headD C.pnil).st == ((ys.getD i.toNat []).headD C.pnil).st) (Tr.chk (decide (0 ≤ i8)) (Tr.chk (decide (i8 < (↑m : Int))) (Tr.chk true (Tr.chk true (Tr.chk true (Tr.chk (decide (0 + i8.toNat < xs.length)) (Tr.chk (decide (1 ≤ (xs.getD (0 + i8.toNat) []).length)) (Tr.chk (shOk [Sk.str] (cO96_0_1 xs i8)) (Tr.chk true (Tr.chk true (Tr.chk (decide (n6 + 1 < 4294967296)) (Tr.chk true (Tr.leaf (R.s (sO96_0 m xs nl tt ys i (n6 + 1) b7 (IntKind.i64.wrap (i8 + 1)) (List.take n6 ys1 ++ [[Sk.str.mk ((cO96_0_1 xs i8).headD C.pnil)]])))))))))))))))) (Tr.leaf (R.s (sO96_0 m xs nl tt ys i n6 b7 (IntKind.i64.wrap (i8 + 1)) ys1))))))))))))))))) (Tr.leaf (R.x (xO96_0x0 m xs nl tt ys i n6 b7 i8 ys1))))) := by kernel_rfl
theorem kO96_0x0 (m : Nat) (xs : LLC) (nl : OBo) (tt : Bool) (ys : LLC) (i : Int) (n6 : Nat) (b7 : Bool) (i8 : Int) (ys1 : LLC) : p96.lkx (loopAt (codeOf E (96)) 0) 0 (xO96_0x0 m xs nl tt ys i n6 b7 i8 ys1) = (Tr.br (!b7) (Tr.chk (decide (0 ≤ i)) (Tr.chk true (Tr.chk (decide (i.toNat < ys.length)) (Tr.chk (shOk [Sk.str, Sk.sl 5] (ys.getD i.toNat [])) (Tr.chk true (Tr.chk true (Tr.chk (decide (n6 + 1 < 4294967296)) (Tr.chk true (Tr.leaf (R.st Ex.nrm [(0, V.buf 0 0 0 (n6 + 1)), (1, V.c (C.sl 2 nl tt ys)), (5, V.c (C.int IntKind.i64 (IntKind.i64.wrap (i + 1))))] [O.mem 1 0 (List.take n6 ys1 ++ [[Sk.str.mk ((ys.getD i.toNat []).headD C.pnil)]])])))))))))) (Tr.leaf (R.st Ex.nrm [(0, V.buf 0 0 0 n6), (1, V.c (C.sl 2 nl tt ys)), (5, V.c (C.int IntKind.i64 (IntKind.i64.wrap (i + 1))))] [O.mem 1 0 ys1]))) := by kernel_rfl
theorem tO96 (m : Nat) (xs : LLC) (nl : OBo) (tt : Bool) (ys : LLC) (i : Int) : p96.lts (loopAt (codeOf E 96) 0) (sO96 m xs nl tt ys i) = (Tr.br (decide (i < (↑ys.length : Int))) (Tr.ls 0 (sO96_0 m xs nl tt ys i (0) false (0) ([]))) (Tr.leaf (R.x (xO96x0 m xs nl tt ys i)))) := by kernel_rfl
theorem tX96 (m : Nat) (xs : LLC) (nl : OBo) (tt : Bool) (ys : LLC) (i : Int) : p96.fkx 0 (xO96 m xs nl tt ys i) = (Tr.leaf (R.out [V.c (C.sl 1 none false (List.take m xs))] [])) := by kernel_rfl
def s96 : CSpec := fun a h => match a, h with
  | [.c (.sl 1 nl tt xs), .c (.sl 2 n2 t2 ys)], [] => some ([isStrs xs, isEs ys, decide (xs.length + ys.length < 4294967290)], [.c (.sl 1 none false (strs (pathsF (toStrs xs) (toEs ys))))], [])
  | _, _ => none
variable (dd : Nat)
noncomputable def s79 : CSpec := fun a h => match a, h with
  | [.c (.sl 2 nl tt xs)], [] => some ([isEs xs, decide (xs.length < 4294967295), hasK dd (toEs xs) 0], [VT (.node [] [] (theK dd (toEs xs) 0))], [])
  | _, _ => none
noncomputable abbrev p44 : Par := par E sh (ctOf [(26, s26), (35, s35), (79, s79 dd), (80, s80), (96, s96), (97, s97)]) 44 3 0
abbrev s44_0 (s : Bys) (xs : LLC) (ys : LLC) (s2 : Bys) (xs2 : LLC) (ys2 : LLC) (s3 : Bys) (xs3 : LLC) (ys3 : LLC) (nl9 : OBo) (t9 : Bool) (xs9 : LLC) (n10 : Nat) (n11 : Nat) (i12 : Int) (nlh0 : OBo) (th0 : Bool) (nlh0_1 : OBo) (th0_1 : Bool) (nlh1 : OBo) (th1 : Bool) (nlh1_1 : OBo) (th1_1 : Bool) (nlh2 : OBo) (th2 : Bool) (nlh2_1 : OBo) (th2_1 : Bool) (sh3 : Bys) (nlh3 : OBo) (th3 : Bool) (xsh3 : LLC) (nlh3_1 : OBo) (th3_1 : Bool) (xsh3_1 : LLC) (ys4 : LLC) (ys5 : LLC) : Fr × Hp := ([(3, V.ptr 0 0 0 0), (4, V.ptr 1 0 0 0), (5, V.ptr 2 0 0 0), (6, V.ptr 3 0 0 0), (9, V.c (C.sl 1 nl9 t9 xs9)), (10, V.buf 4 0 0 n10), (11, V.buf 5 0 0 n11), (12, V.c (C.int IntKind.i64 i12))], [O.box [V.c (C.str s), V.c (C.sl 5 nlh0 th0 xs), V.c (C.sl 3 nlh0_1 th0_1 ys)], O.box [V.c (C.str s2), V.c (C.sl 5 nlh1 th1 xs2), V.c (C.sl 3 nlh1_1 th1_1 ys2)], O.box [V.c (C.str s3), V.c (C.sl 5 nlh2 th2 xs3), V.c (C.sl 3 nlh2_1 th2_1 ys3)], O.box [V.c (C.str sh3), V.c (C.sl 5 nlh3 th3 xsh3), V.c (C.sl 3 nlh3_1 th3_1 xsh3_1)], O.mem 1 0 ys4, O.mem 2 0 ys5])
noncomputable abbrev b44_0 : Code := loopAt (codeOf E (44)) 0
abbrev x44_0x0 (s : Bys) (xs : LLC) (ys : LLC) (s2 : Bys) (xs2 : LLC) (ys2 : LLC) (s3 : Bys) (xs3 : LLC) (ys3 : LLC) (nl9 : OBo) (t9 : Bool) (xs9 : LLC) (n10 : Nat) (n11 : Nat) (i12 : Int) (nlh0 : OBo) (th0 : Bool) (nlh0_1 : OBo) (th0_1 : Bool) (nlh1 : OBo) (th1 : Bool) (nlh1_1 : OBo) (th1_1 : Bool) (nlh2 : OBo) (th2 : Bool) (nlh2_1 : OBo) (th2_1 : Bool) (sh3 : Bys) (nlh3 : OBo) (th3 : Bool) (xsh3 : LLC) (nlh3_1 : OBo) (th3_1 : Bool) (xsh3_1 : LLC) (ys4 : LLC) (ys5 : LLC) : Ex × Fr × Hp := (Ex.exit 0, [(3, V.ptr 0 0 0 0), (4, V.ptr 1 0 0 0), (5, V.ptr 2 0 0 0), (6, V.ptr 3 0 0 0), (9, V.c (C.sl 1 nl9 t9 xs9)), (10, V.buf 4 0 0 n10), (11, V.buf 5 0 0 n11), (12, V.c (C.int IntKind.i64 i12)), (43, V.c (C.bool false))], [O.box [V.c (C.str s), V.c (C.sl 5 nlh0 th0 xs), V.c (C.sl 3 nlh0_1 th0_1 ys)], O.box [V.c (C.str s2), V.c (C.sl 5 nlh1 th1 xs2), V.c (C.sl 3 nlh1_1 th1_1 ys2)], O.box [V.c (C.str s3), V.c (C.sl 5 nlh2 th2 xs3), V.c (C.sl 3 nlh2_1 th2_1 ys3)], O.box [V.c (C.str sh3), V.c (C.sl 5 nlh3 th3 xsh3), V.c (C.sl 3 nlh3_1 th3_1 xsh3_1)], O.mem 1 0 ys4, O.mem 2 0 ys5])
abbrev c44_0_1 (s2 : Bys) (xs2 : LLC) (ys2 : LLC) (xs9 : LLC) (i12 : Int) := (rows (getR (Nd.node s2 (toRows xs2) (decL ys2)) ((xs9.getD i12.toNat []).headD C.pnil).st))
abbrev c44_0_2 (s : Bys) (xs : LLC) (ys : LLC) (xs9 : LLC) (i12 : Int) := (rows (getR (Nd.node s (toRows xs) (decL ys)) ((xs9.getD i12.toNat []).headD C.pnil).st))
abbrev c44_0_3 (s3 : Bys) (xs3 : LLC) (ys3 : LLC) (xs9 : LLC) (i12 : Int) := (rows (getR (Nd.node s3 (toRows xs3) (decL ys3)) ((xs9.getD i12.toNat []).headD C.pnil).st))
abbrev c44_0_4 (xs9 : LLC) (i12 : Int) := (shOk [Sk.str] (xs9.getD i12.toNat []))
theorem t44_0 (s : Bys) (xs : LLC) (ys : LLC) (s2 : Bys) (xs2 : LLC) (ys2 : LLC) (s3 : Bys) (xs3 : LLC) (ys3 : LLC) (nl9 : OBo) (t9 : Bool) (xs9 : LLC) (n10 : Nat) (n11 : Nat) (i12 : Int) (nlh0 : OBo) (th0 : Bool) (nlh0_1 : OBo) (th0_1 : Bool) (nlh1 : OBo) (th1 : Bool) (nlh1_1 : OBo) (th1_1 : Bool) (nlh2 : OBo) (th2 : Bool) (nlh2_1 : OBo) (th2_1 : Bool) (sh3 : Bys) (nlh3 : OBo) (th3 : Bool) (xsh3 : LLC) (nlh3_1 : OBo) (th3_1 : Bool) (xsh3_1 : LLC) (ys4 : LLC) (ys5 : LLC) : (p44 dd).lts b44_0 (s44_0 s xs ys s2 xs2 ys2 s3 xs3 ys3 nl9 t9 xs9 n10 n11 i12 nlh0 th0 nlh0_1 th0_1 nlh1 th1 nlh1_1 th1_1 nlh2 th2 nlh2_1 th2_1 sh3 nlh3 th3 xsh3 nlh3_1 th3_1 xsh3_1 ys4 ys5) = (Tr.br (decide (i12 < (↑xs9.length : Int))) (Tr.chk (decide (0 ≤ i12)) (Tr.chk true (Tr.chk (decide (i12.toNat < xs9.length)) (Tr.chk (c44_0_4 xs9 i12) (Tr.chk (isRows xs) (Tr.chk (isL ys) (Tr.chk (decide ((entT (Nd.node s (toRows xs) (decL ys))).length < 4294967290)) (Tr.chk (decide (0 ≤ i12)) (Tr.chk true (Tr.chk (decide (i12.toNat < xs9.length)) (Tr.chk (c44_0_4 xs9 i12) (Tr.chk (isRows xs2) (Tr.chk (isL ys2) (Tr.chk (decide ((entT (Nd.node s2 (toRows xs2) (decL ys2))).length < 4294967290)) (Tr.chk (decide (0 ≤ i12)) (Tr.chk true (Tr.chk (decide (i12.toNat < xs9.length)) (Tr.chk (c44_0_4 xs9 i12) (Tr.chk (isRows xs3) (Tr.chk (isL ys3) (Tr.chk (decide ((entT (Nd.node s3 (toRows xs3) (decL ys3))).length < 4294967290)) (Tr.chk (isRows (c44_0_1 s2 xs2 ys2 xs9 i12)) (Tr.chk (isRows (c44_0_3 s3 xs3 ys3 xs9 i12)) (Tr.chk (decide ((c44_0_1 s2 xs2 ys2 xs9 i12).length ≤ 9223372036854775807)) (Tr.br (decide (toRows (c44_0_1 s2 xs2 ys2 xs9 i12) = toRows (c44_0_3 s3 xs3 ys3 xs9 i12))) (Tr.br (decide (0 < (↑(c44_0_1 s2 xs2 ys2 xs9 i12).length : Int))) (Tr.chk (decide (0 ≤ i12)) (Tr.chk true (Tr.chk (decide (i12.toNat < xs9.length)) (Tr.chk (c44_0_4 xs9 i12) (Tr.chk true (Tr.chk true (Tr.chk (decide (n11 + 1 < 4294967296)) (Tr.chk true (Tr.leaf (R.s (s44_0 s xs ys s2 xs2 ys2 s3 xs3 ys3 nl9 t9 xs9 n10 (n11 + 1) (IntKind.i64.wrap (i12 + 1)) nlh0 th0 nlh0_1 th0_1 nlh1 th1 nlh1_1 th1_1 nlh2 th2 nlh2_1 th2_1 sh3 nlh3 th3 xsh3 nlh3_1 th3_1 xsh3_1 ys4 (List.take n11 ys5 ++ [[Sk.str.mk ((xs9.getD i12.toNat []).headD C.pnil), C.sl 5 none false (c44_0_1 s2 xs2 ys2 xs9 i12)]])))))))))))) (Tr.leaf (R.s (s44_0 s xs ys s2 xs2 ys2 s3 xs3 ys3 nl9 t9 xs9 n10 n11 (IntKind.i64.wrap (i12 + 1)) nlh0 th0 nlh0_1 th0_1 nlh1 th1 nlh1_1 th1_1 nlh2 th2 nlh2_1 th2_1 sh3 nlh3 th3 xsh3 nlh3_1 th3_1 xsh3_1 ys4 ys5)))) (Tr.chk (isRows (c44_0_2 s xs ys xs9 i12)) (Tr.chk (isRows (c44_0_1 s2 xs2 ys2 xs9 i12)) (Tr.chk (decide ((c44_0_2 s xs ys xs9 i12).length ≤ 9223372036854775807)) (Tr.br (decide (toRows (c44_0_2 s xs ys xs9 i12) = toRows (c44_0_1 s2 xs2 ys2 xs9 i12))) (Tr.br (decide (0 < (↑(c44_0_3 s3 xs3 ys3 xs9 i12).length : Int))) (Tr.chk (decide (0 ≤ i12)) (Tr.chk true (Tr.chk (decide (i12.toNat < xs9.length)) (Tr.chk (c44_0_4 xs9 i12) (Tr.chk true (Tr.chk true (Tr.chk (decide (n11 + 1 < 4294967296)) (Tr.chk true (Tr.leaf (R.s (s44_0 s xs ys s2 xs2 ys2 s3 xs3 ys3 nl9 t9 xs9 n10 (n11 + 1) (IntKind.i64.wrap (i12 + 1)) nlh0 th0 nlh0_1 th0_1 nlh1 th1 nlh1_1 th1_1 nlh2 th2 nlh2_1 th2_1 sh3 nlh3 th3 xsh3 nlh3_1 th3_1 xsh3_1 ys4 (List.take n11 ys5 ++ [[Sk.str.mk ((xs9.getD i12.toNat []).headD C.pnil), C.sl 5 none false (c44_0_3 s3 xs3 ys3 xs9 i12)]])))))))))))) (Tr.leaf (R.s (s44_0 s xs ys s2 xs2 ys2 s3 xs3 ys3 nl9 t9 xs9 n10 n11 (IntKind.i64.wrap (i12 + 1)) nlh0 th0 nlh0_1 th0_1 nlh1 th1 nlh1_1 th1_1 nlh2 th2 nlh2_1 th2_1 sh3 nlh3 th3 xsh3 nlh3_1 th3_1 xsh3_1 ys4 ys5)))) (Tr.chk (isRows (c44_0_2 s xs ys xs9 i12)) (Tr.chk (isRows (c44_0_3 s3 xs3 ys3 xs9 i12)) (Tr.chk (decide ((c44_0_2 s xs ys xs9 i12).length ≤ 9223372036854775807)) (Tr.br (!decide (toRows (c44_0_2 s xs ys xs9 i12) = toRows (c44_0_3 s3 xs3 ys3 xs9 i12))) (Tr.chk (decide (0 ≤ i12)) (Tr.chk true (Tr.chk (decide (i12.toNat < xs9.length)) (Tr.chk (c44_0_4 xs9 i12) (Tr.chk true (Tr.chk true (Tr.chk (decide (n10 + 1 < 4294967296)) (Tr.chk true (Tr.br (decide (0 < (↑(c44_0_1 s2 xs2 ys2 xs9 i12).length : Int))) (Tr.chk (decide (0 ≤ i12)) (Tr.chk true (Tr.chk (decide (i12.toNat < xs9.length)) (Tr.chk (c44_0_4 xs9 i12) (Tr.chk true (Tr.chk true (Tr.chk (decide (n11 + 1 < 4294967296)) (Tr.chk true (Tr.leaf (R.s (s44_0 s xs ys s2 xs2 ys2 s3 xs3 ys3 nl9 t9 xs9 (n10 + 1) (n11 + 1) (IntKind.i64.wrap (i12 + 1)) nlh0 th0 nlh0_1 th0_1 nlh1 th1 nlh1_1 th1_1 nlh2 th2 nlh2_1 th2_1 sh3 nlh3 th3 xsh3 nlh3_1 th3_1 xsh3_1 (List.take n10 ys4 ++ [[Sk.str.mk ((xs9.getD i12.toNat []).headD C.pnil)]]) (List.take n11 ys5 ++ [[Sk.str.mk ((xs9.getD i12.toNat []).headD C.pnil), C.sl 5 none false (c44_0_1 s2 xs2 ys2 xs9 i12)]])))))))))))) (Tr.leaf (R.s (s44_0 s xs ys s2 xs2 ys2 s3 xs3 ys3 nl9 t9 xs9 (n10 + 1) n11 (IntKind.i64.wrap (i12 + 1)) nlh0 th0 nlh0_1 th0_1 nlh1 th1 nlh1_1 th1_1 nlh2 th2 nlh2_1 th2_1 sh3 nlh3 th3 xsh3 nlh3_1 th3_1 xsh3_1 (List.take n10 ys4 ++ [[Sk.str.mk ((xs9.getD i12.toNat []).headD C.pnil)]]) ys5)))))))))))) (Tr.br (decide (0 < (↑(c44_0_1 s2 xs2 ys2 xs9 i12).length : Int))) (Tr.chk (decide (0 ≤ i12)) (Tr.chk true (Tr.chk (decide (i12.toNat < xs9.length)) (Tr.chk (c44_0_4 xs9 i12) (Tr.chk true (Tr.chk true (Tr.chk (decide (n11 + 1 < 4294967296)) (Tr.chk true (Tr.leaf (R.s (s44_0 s xs ys s2 xs2 ys2 s3 xs3 ys3 nl9 t9 xs9 n10 (n11 + 1) (IntKind.i64.wrap (i12 + 1)) nlh0 th0 nlh0_1 th0_1 nlh1 th1 nlh1_1 th1_1 nlh2 th2 nlh2_1 th2_1 sh3 nlh3 th3 xsh3 nlh3_1 th3_1 xsh3_1 ys4 (List.take n11 ys5 ++ [[Sk.str.mk ((xs9.getD i12.toNat []).headD C.pnil), C.sl 5 none false (c44_0_1 s2 xs2 ys2 xs9 i12)]])))))))))))) (Tr.leaf (R.s (s44_0 s xs ys s2 xs2 ys2 s3 xs3 ys3 nl9 t9 xs9 n10 n11 (IntKind.i64.wrap (i12 + 1)) nlh0 th0 nlh0_1 th0_1 nlh1 th1 nlh1_1 th1_1 nlh2 th2 nlh2_1 th2_1 sh3 nlh3 th3 xsh3 nlh3_1 th3_1 xsh3_1 ys4 ys5))))))))))))))))))))))))))))))))))))) (Tr.leaf (R.x (x44_0x0 s xs ys s2 xs2 ys2 s3 xs3 ys3 nl9 t9 xs9 n10 n11 i12 nlh0 th0 nlh0_1 th0_1 nlh1 th1 nlh1_1 th1_1 nlh2 th2 nlh2_1 th2_1 sh3 nlh3 th3 xsh3 nlh3_1 th3_1 xsh3_1 ys4 ys5)))) := by kernel_rfl
theorem k44_0x0 (dd : Nat) (s : Bys) (xs : LLC) (ys : LLC) (s2 : Bys) (xs2 : LLC) (ys2 : LLC) (s3 : Bys) (xs3 : LLC) (ys3 : LLC) (nl9 : OBo) (t9 : Bool) (xs9 : LLC) (n10 : Nat) (n11 : Nat) (i12 : Int) (nlh0 : OBo) (th0 : Bool) (nlh0_1 : OBo) (th0_1 : Bool) (nlh1 : OBo) (th1 : Bool) (nlh1_1 : OBo) (th1_1 : Bool) (nlh2 : OBo) (th2 : Bool) (nlh2_1 : OBo) (th2_1 : Bool) (sh3 : Bys) (nlh3 : OBo) (th3 : Bool) (xsh3 : LLC) (nlh3_1 : OBo) (th3_1 : Bool) (xsh3_1 : LLC) (ys4 : LLC) (ys5 : LLC) : (p44 dd).fkx 0 (x44_0x0 s xs ys s2 xs2 ys2 s3 xs3 ys3 nl9 t9 xs9 n10 n11 i12 nlh0 th0 nlh0_1 th0_1 nlh1 th1 nlh1_1 th1_1 nlh2 th2 nlh2_1 th2_1 sh3 nlh3 th3 xsh3 nlh3_1 th3_1 xsh3_1 ys4 ys5) = (Tr.chk true (Tr.br (decide (0 < (↑n10 : Int))) (Tr.leaf (R.out [V.agg [V.c (C.str []), V.c (C.sl 5 none false []), V.c (C.sl 3 none false [])], V.c (C.sl 1 none false (List.take n10 ys4)), V.c (C.int IntKind.i64 19)] [])) (Tr.chk (isEs (List.take n11 ys5)) (Tr.chk (decide ((List.take n11 ys5).length < 4294967295)) (Tr.chk (hasK dd (toEs (List.take n11 ys5)) 0) (Tr.leaf (R.out [V.agg [V.c (C.str []), V.c (C.sl 5 none false []), V.c (C.sl 3 none false (encL (Nd.node [] [] (theK dd (toEs (List.take n11 ys5)) 0)).kids))], V.c (C.sl 1 none false []), V.c (C.int IntKind.i64 0)] []))))))) := by kernel_rfl
abbrev c44_1 (s : Bys) (xs : LLC) (ys : LLC) := (ents (if okR (Nd.node s (toRows xs) (decL ys)) = true then entT (Nd.node s (toRows xs) (decL ys)) else []))
abbrev c44_2 (s2 : Bys) (xs2 : LLC) (ys2 : LLC) := (ents (if okR (Nd.node s2 (toRows xs2) (decL ys2)) = true then entT (Nd.node s2 (toRows xs2) (decL ys2)) else []))
abbrev c44_3 (s3 : Bys) (xs3 : LLC) (ys3 : LLC) := (ents (if okR (Nd.node s3 (toRows xs3) (decL ys3)) = true then entT (Nd.node s3 (toRows xs3) (decL ys3)) else []))
theorem t44 (s : Bys) (xs : LLC) (ys : LLC) (s2 : Bys) (xs2 : LLC) (ys2 : LLC) (s3 : Bys) (xs3 : LLC) (ys3 : LLC) : (p44 dd).ft ([V.agg [V.c (C.str s), V.c (C.sl 5 none false xs), V.c (C.sl 3 none false ys)], V.agg [V.c (C.str s2), V.c (C.sl 5 none false xs2), V.c (C.sl 3 none false ys2)], V.agg [V.c (C.str s3), V.c (C.sl 5 none false xs3), V.c (C.sl 3 none false ys3)]]) ([]) = (Tr.chk (isRows xs) (Tr.chk (isL ys) (Tr.br (!okR (Nd.node s (toRows xs) (decL ys))) (Tr.leaf (R.out [V.agg [V.c (C.str []), V.c (C.sl 5 none false []), V.c (C.sl 3 none false [])], V.c (C.sl 1 none false []), V.c (C.int IntKind.i64 2)] [])) (Tr.chk (isRows xs2) (Tr.chk (isL ys2) (Tr.br (!okR (Nd.node s2 (toRows xs2) (decL ys2))) (Tr.leaf (R.out [V.agg [V.c (C.str []), V.c (C.sl 5 none false []), V.c (C.sl 3 none false [])], V.c (C.sl 1 none false []), V.c (C.int IntKind.i64 2)] [])) (Tr.chk (isRows xs3) (Tr.chk (isL ys3) (Tr.br (!okR (Nd.node s3 (toRows xs3) (decL ys3))) (Tr.leaf (R.out [V.agg [V.c (C.str []), V.c (C.sl 5 none false []), V.c (C.sl 3 none false [])], V.c (C.sl 1 none false []), V.c (C.int IntKind.i64 2)] [])) (Tr.chk (isRows xs) (Tr.chk (isL ys) (Tr.chk (decide ((entT (Nd.node s (toRows xs) (decL ys))).length < 4294967290)) (Tr.chk true (Tr.chk (isEs (c44_1 s xs ys)) (Tr.chk (decide (0 + (c44_1 s xs ys).length < 4294967290)) (Tr.chk (isRows xs2) (Tr.chk (isL ys2) (Tr.chk (decide ((entT (Nd.node s2 (toRows xs2) (decL ys2))).length < 4294967290)) (Tr.chk (isStrs (strs (pathsF (toStrs []) (toEs (c44_1 s xs ys))))) (Tr.chk (isEs (c44_2 s2 xs2 ys2)) (Tr.chk (decide ((strs (pathsF (toStrs []) (toEs (c44_1 s xs ys)))).length + (c44_2 s2 xs2 ys2).length < 4294967290)) (Tr.chk (isRows xs3) (Tr.chk (isL ys3) (Tr.chk (decide ((entT (Nd.node s3 (toRows xs3) (decL ys3))).length < 4294967290)) (Tr.chk (isStrs (strs (pathsF (toStrs (strs (pathsF (toStrs []) (toEs (c44_1 s xs ys))))) (toEs (c44_2 s2 xs2 ys2))))) (Tr.chk (isEs (c44_3 s3 xs3 ys3)) (Tr.chk (decide ((strs (pathsF (toStrs (strs (pathsF (toStrs []) (toEs (c44_1 s xs ys))))) (toEs (c44_2 s2 xs2 ys2)))).length + (c44_3 s3 xs3 ys3).length < 4294967290)) (Tr.ls 0 (s44_0 s xs ys s2 xs2 ys2 s3 xs3 ys3 (none) false (strs (pathsF (toStrs (strs (pathsF (toStrs (strs (pathsF (toStrs []) (toEs (c44_1 s xs ys))))) (toEs (c44_2 s2 xs2 ys2))))) (toEs (c44_3 s3 xs3 ys3)))) (0) (0) (0) (none) false (none) false (none) false (none) false (none) false (none) false ([]) (some true) true ([]) (some true) true ([]) ([]) ([])))))))))))))))))))))))))))))) := by kernel_rfl
end Go.Proofs.YtgaabjmbnomimaaDoor
namespace Go.Proofs.YtgaabjmbnomimaaDoor
open Go Go.Ev
def likeB (h : Ent) (n : Nat) (e : Ent) : Bool := decide (n < e.1.length) && decide (at0 e.1 n = at0 h.1 n)
theorem byte_ne (a b : UInt8) : (((a.toNat : Nat) : Int) != ((b.toNat : Nat) : Int)) = !decide (a = b) := by
  by_cases h : a = b
  · simp [h]
  · have : a.toNat ≠ b.toNat := fun e => h (UInt8.toNat_inj.1 e)
    have h2 : ((a.toNat : Nat) : Int) ≠ ((b.toNat : Nat) : Int) := by omega
    simp [h, h2]
theorem at0_def (p : Bys) (n : Nat) : p.getD n 0 = at0 p n := rfl
theorem inner178 (nl : OBo) (tt : Bool) (h : Ent) (r : List Ent) (n : Nat) (hl : (h :: r).length < 4294967296) (hn : n < 24) (hh : n < h.1.length) :
    p178.ld b178_0 (Tr.ls 0 (s178_0_0 nl tt (ents (h :: r)) n 0)) = if ((h :: r).all (likeB h n)) = true then some (R.s (s178_0 nl tt (ents (h :: r)) ((n + 1 : Nat) : Int))) else some (R.x (x178_0x0 n)) := by
  have h0 : (ents (h :: r)).getD (Int.toNat 0) [] = ee h := rfl
  have h00 : Int.toNat 0 < (h :: r).length := Nat.succ_pos _
  refine ld_post (p := p178) ctOf_nil (by kernel_rfl) (by split <;> rfl) (list_post (p := p178) ctOf_nil (b := b178_0_0) (h :: r).length (fun k (_ : Unit) => s178_0_0 nl tt (ents (h :: r)) n k) (fun k _ => ((h :: r).drop k).all (likeB h n) = (h :: r).all (likeB h n)) _ ?_ ?_ 0 (Nat.zero_le _) () rfl)
  · intro k _ hk hi
    rw [List.drop_eq_getElem_cons hk, List.all_cons] at hi
    have go : p178.ld b178_0_0 (p178.lts b178_0_0 (s178_0_0 nl tt (ents (h :: r)) n k)) = if likeB h n (h :: r)[k] = true then some (R.s (s178_0_0 nl tt (ents (h :: r)) n ((k + 1 : Nat) : Int))) else some (R.x (x178_0_0x0 n)) := by
      rw [t178_0_0]
      unfold likeB
      simp only [ld_br, ld_chk', ld_leaf, fd_br, fd_chk', fd_leaf, decide_true, decide_eq_true_eq, if_true, Int.toNat_natCast, Int.natCast_nonneg, Int.ofNat_lt, Int.ofNat_le, Bool.false_eq_true, if_false, bne_iff_ne, beq_iff_eq, ne_eq, not_true_eq_false, not_false_eq_true, Bool.not_eq_true', decide_eq_false_iff_not, reduceCtorEq, rows_length, pcs_length, er_ok, er_ok', ep_ok, ep_ok', dr_er, dp_ep, isRows_rows, isPcs_pcs, toRows_rows, toPcs_pcs, rows_take, rows_drop, pcs_take, pcs_drop, rows_append, pcs_append, ints_length, isInts_ints, toInts_ints, ei_i, ei_ok, mk_headD, ints_take, ints_drop, ints_append, ints_snoc, ints_snoc', List.take_length, Nat.zero_add, Nat.le_refl, er_a, er_b, er_k, er_n, er_s, er_v, ep_a, ep_b, ep_hk, ep_hn, ep_hs, ep_wk, ep_wn, ep_ws, ents_length, hk, ents_getD hk, h0, h00, ee_ok, ee_p, hh, byte_ne, at0_def, wrap_succ (show k < 9223372036854775807 by omega)]
      by_cases c : n < (h :: r)[k].1.length
      · have : ¬ (((h :: r)[k].1.length : Nat) ≤ n) := by omega
        simp only [c, this, decide_true, if_true, if_false, Bool.true_and, decide_eq_true_eq]
        by_cases d : at0 (h :: r)[k].1 n = at0 h.1 n
        · simp [d]
        · simp [d]
      · have : ((h :: r)[k].1.length : Nat) ≤ n := by omega
        simp [c, this]
    cases c : likeB h n (h :: r)[k] with
    | true =>
      rw [c, if_pos rfl] at go
      rw [c, Bool.true_and] at hi
      exact .inl ⟨(), hi, go⟩
    | false =>
      rw [c, if_neg (by simp)] at go
      rw [c, Bool.false_and] at hi
      refine .inr ⟨x178_0_0x0 n, by simp, ?_, go⟩
      rw [k178_0_0x0, ld_leaf, ← hi]; rfl
  · intro _ hi
    rw [List.drop_length, List.all_nil] at hi
    refine ⟨x178_0_0x1 nl tt (ents (h :: r)) n (h :: r).length, by simp, ?_, ?_⟩
    · rw [k178_0_0x1, ld_leaf, ← hi, wrap_succ (show n < 9223372036854775807 by omega)]; rfl
    · rw [t178_0_0]; simp only [ld_br, ld_chk', ld_leaf, fd_br, fd_chk', fd_leaf, decide_true, decide_eq_true_eq, if_true, Int.toNat_natCast, Int.natCast_nonneg, Int.ofNat_lt, Int.ofNat_le, Bool.false_eq_true, if_false, bne_iff_ne, beq_iff_eq, ne_eq, not_true_eq_false, not_false_eq_true, Bool.not_eq_true', decide_eq_false_iff_not, reduceCtorEq, rows_length, pcs_length, er_ok, er_ok', ep_ok, ep_ok', dr_er, dp_ep, isRows_rows, isPcs_pcs, toRows_rows, toPcs_pcs, rows_take, rows_drop, pcs_take, pcs_drop, rows_append, pcs_append, ints_length, isInts_ints, toInts_ints, ei_i, ei_ok, mk_headD, ints_take, ints_drop, ints_append, ints_snoc, ints_snoc', List.take_length, Nat.zero_add, Nat.le_refl, er_a, er_b, er_k, er_n, er_s, er_v, ep_a, ep_b, ep_hk, ep_hn, ep_hs, ep_wk, ep_wn, ep_ws, ents_length, Int.lt_irrefl]
theorem commonF_cons (h : Ent) (r : List Ent) (f n : Nat) : commonF (h :: r) (f + 1) n = if n ≥ h.1.length ∨ n ≥ 24 then n else if ((h :: r).all (likeB h n)) = true then commonF (h :: r) f (n + 1) else n := rfl
theorem f178 (nl : OBo) (tt : Bool) (l : List Ent) (n : Nat) (hne : l ≠ []) (hl : l.length < 4294967296) (hn : n ≤ 24) : call E 178 [.c (.sl 2 nl tt (ents l)), V.i n] [] = some ([V.i (commonL l n : Nat)], []) := by
  refine call_of (E := E) (sh := sh) (ct := ctOf []) (na := 2) (m := 0) ctOf_nil rfl rfl rfl rfl rfl rfl ?_
  obtain ⟨h, r, rfl⟩ : ∃ h r, l = h :: r := by cases l with | nil => exact absurd rfl hne | cons h r => exact ⟨h, r, rfl⟩
  rw [t178]
  have h0 : (ents (h :: r)).getD (Int.toNat 0) [] = ee h := rfl
  have h00 : Int.toNat 0 < (h :: r).length := Nat.succ_pos _
  refine fd_post (p := p178) ctOf_nil (by kernel_rfl) rfl (loops_post (p := p178) ctOf_nil (b := b178_0) (ι := Nat) (fun k => s178_0 nl tt (ents (h :: r)) k) (fun k => k ≤ 24 ∧ ∃ f, 25 ≤ f + k ∧ commonF (h :: r) f k = commonL (h :: r) n) (fun k => 25 - k) _ ?_ n ⟨hn, 25, by omega, rfl⟩)
  rintro k ⟨hk, f, hf, hc⟩
  obtain ⟨f, rfl⟩ : ∃ g, f = g + 1 := ⟨f - 1, by omega⟩
  rw [commonF_cons] at hc
  have stop : commonL (h :: r) n = k → ∀ X, p178.ld b178_0 X = some (R.x (x178_0x0 k)) → ∃ x : Ex × Fr × Hp, x.1 ≠ .nrm ∧ p178.fd (p178.fkx 0 x) = some (.out [V.i (commonL (h :: r) n : Nat)] []) ∧ p178.ld b178_0 X = some (R.x x) := fun e X hX =>
    ⟨x178_0x0 k, by simp, by rw [k178_0x0, fd_leaf, e], hX⟩
  by_cases c1 : k ≥ h.1.length ∨ k ≥ 24
  · rw [if_pos c1] at hc
    refine .inr (stop hc.symm _ ?_)
    rw [t178_0]
    simp only [ld_br, ld_chk', ld_leaf, fd_br, fd_chk', fd_leaf, decide_true, decide_eq_true_eq, if_true, Int.toNat_natCast, Int.natCast_nonneg, Int.ofNat_lt, Int.ofNat_le, Bool.false_eq_true, if_false, bne_iff_ne, beq_iff_eq, ne_eq, not_true_eq_false, not_false_eq_true, Bool.not_eq_true', decide_eq_false_iff_not, reduceCtorEq, rows_length, pcs_length, er_ok, er_ok', ep_ok, ep_ok', dr_er, dp_ep, isRows_rows, isPcs_pcs, toRows_rows, toPcs_pcs, rows_take, rows_drop, pcs_take, pcs_drop, rows_append, pcs_append, ints_length, isInts_ints, toInts_ints, ei_i, ei_ok, mk_headD, ints_take, ints_drop, ints_append, ints_snoc, ints_snoc', List.take_length, Nat.zero_add, Nat.le_refl, er_a, er_b, er_k, er_n, er_s, er_v, ep_a, ep_b, ep_hk, ep_hn, ep_hs, ep_wk, ep_wn, ep_ws, ents_length, h0, h00, ee_ok, ee_p]
    by_cases d : h.1.length ≤ k
    · rw [if_pos (by omega)]
    · rw [if_neg (by omega), if_pos (by omega)]
  · rw [if_neg c1] at hc
    have go : p178.ld b178_0 (p178.lts b178_0 (s178_0 nl tt (ents (h :: r)) k)) = p178.ld b178_0 (Tr.ls 0 (s178_0_0 nl tt (ents (h :: r)) k 0)) := by
      rw [t178_0]
      simp only [ld_br, ld_chk', decide_eq_true_eq, if_true, ents_length, h0, h00, ee_ok, ee_p, decide_true]
      rw [if_neg (by omega), if_neg (by omega)]
    rw [inner178 nl tt h r k hl (by omega) (by omega)] at go
    by_cases c2 : ((h :: r).all (likeB h k)) = true
    · rw [if_pos c2] at hc go
      exact .inl ⟨k + 1, ⟨by omega, f, by omega, hc⟩, by omega, go⟩
    · rw [if_neg c2] at hc go
      refine .inr ⟨x178_0x0 k, by simp, by rw [k178_0x0, fd_leaf, ← hc], go⟩
theorem s178_ok : CSpecOk E 178 s178 := by
  intro a h cs vals h' he hc
  unfold s178 at he
  split at he <;> simp only [Option.some.injEq, Prod.mk.injEq, reduceCtorEq] at he
  rename_i nl tt xs n
  obtain ⟨rfl, rfl, rfl⟩ := he
  simp only [allT, Bool.and_true, Bool.and_eq_true, decide_eq_true_eq] at hc
  obtain ⟨h1, h2, h3, h4, h5⟩ := hc
  obtain ⟨l, rfl⟩ := ents_ex h1
  rw [ents_length] at h3
  rw [toEs_ents]
  have := f178 nl tt l n.toNat (fun e => h2 (by rw [e]; rfl)) h3 (by omega)
  rw [Int.toNat_of_nonneg h4] at this
  exact this
theorem node_facts (lab : Bys) (rs : List Row) (ks : List Nd) (q : Bys) (n : Nat) (h : okT (.node lab rs ks) n = true) (hq : q.length + n ≤ 24) :
    commonL (pre' q (entT (.node lab rs ks))) q.length = (q ++ lab).length ∧ pre' q (entT (.node lab rs ks)) ≠ [] ∧ (∃ s0, ((pre' q (entT (.node lab rs ks))).headD default).1 = (q ++ lab) ++ s0) ∧
    (rs = [] → ((pre' q (entT (.node lab rs ks))).headD default).1.length ≠ (q ++ lab).length ∧ pre' q (entT (.node lab rs ks)) = pre' (q ++ lab) (entL ks)) ∧
    (rs ≠ [] → pre' q (entT (.node lab rs ks)) = (q ++ lab, rs) :: pre' (q ++ lab) (entL ks)) := by
  obtain ⟨g1, g2, g3, g4, g5⟩ := okT_iff.1 h
  simp only [Nd.rows_node, Nd.kids_node, Nd.lab_node] at g1 g2 g3 g4 g5
  have hl : pre' q (entT (.node lab rs ks)) = pre' (q ++ lab) (ownB rs ++ entL ks) := by rw [entT_pre']; rfl
  have hne : pre' q (entT (.node lab rs ks)) ≠ [] := by
    have := entT_some _ _ h
    simpa [pre'] using this
  have hlen : ∀ e ∈ pre' q (entT (.node lab rs ks)), ∃ s, e.1 = (q ++ lab) ++ s := by
    rw [hl]
    intro e he
    simp only [pre', List.mem_map] at he
    obtain ⟨x, _, rfl⟩ := he
    exact ⟨x.1, rfl⟩
  have hd : ((pre' q (entT (.node lab rs ks))).headD default) ∈ pre' q (entT (.node lab rs ks)) := by
    cases hx : pre' q (entT (.node lab rs ks)) with | nil => exact absurd hx hne | cons a r => simp
  obtain ⟨s0, hs0⟩ := hlen _ hd
  have hkl : ∀ {k : Nd} {r : List Nd}, ks = k :: r → ∃ x xs, entL ks = x :: xs ∧ hdB x.1 = hdB k.lab ∧ x.1 ≠ [] := fun {k r} hk => by
    have h1 := entT_some k _ (g5.1 k (by rw [hk]; simp))
    cases hx : entT k with
    | nil => exact absurd hx h1
    | cons x xs =>
      obtain ⟨s, hs⟩ := entT_pre k x (by rw [hx]; simp)
      have hkn := (okT_iff.1 (g5.1 k (by rw [hk]; simp))).1
      exact ⟨x, xs ++ entL r, by rw [hk, entL, hx]; rfl, by rw [hs, hdB_app hkn], by rw [hs]; simp [hkn]⟩
  have hrs : rs = [] → ∃ k1 k2 r, ks = k1 :: k2 :: r := fun c => by
    have h2 : 2 ≤ ks.length := by rcases g4 with g | g; exact absurd c g; exact g
    match ks, h2 with
    | k1 :: k2 :: r, _ => exact ⟨k1, k2, r, rfl⟩
  have hcom : commonL (pre' q (entT (.node lab rs ks))) q.length = (q ++ lab).length := by
    refine commonF_go _ _ (fun e he => ?_) (by simp; omega) hne (fun n hn e he => ?_) ?_ 25 q.length (by simp) (by simp; omega)
    · obtain ⟨s, hs⟩ := hlen e he
      rw [hs]; simp
    · obtain ⟨s, hs⟩ := hlen e he
      rw [hs, hs0, at0_pre hn, at0_pre hn]
    · by_cases c : rs = []
      · obtain ⟨k1, k2, r, hk⟩ := hrs c
        obtain ⟨x, xs, e1, e2, e3⟩ := hkl hk
        have h3 := entT_some k2 _ (g5.1 k2 (by rw [hk]; simp))
        cases hy : entT k2 with
        | nil => exact absurd hy h3
        | cons y ys =>
          obtain ⟨s, hs⟩ := entT_pre k2 y (by rw [hy]; simp)
          have hkn := (okT_iff.1 (g5.1 k2 (by rw [hk]; simp))).1
          have hlt : hdB k1.lab < hdB k2.lab := by have := g5.2; rw [hk, List.pairwise_cons] at this; exact this.1 k2 (by simp)
          refine .inr (.inr ⟨((q ++ lab) ++ y.1, y.2), ?_, .inr ?_⟩)
          · rw [hl]
            refine List.mem_map_of_mem (f := fun e : Ent => ((q ++ lab) ++ e.1, e.2)) ?_
            rw [List.mem_append]; right
            rw [hk]; simp [entL, hy]
          · have e0 : (pre' q (entT (.node lab rs ks))).headD default = ((q ++ lab) ++ x.1, x.2) := by
              rw [hl, c]
              simp [ownB, e1, pre']
            rw [e0]
            simp only
            rw [at0_app, at0_app]
            refine at0_ne ?_
            rw [e2, hs, hdB_app hkn]; omega
      · left
        rw [hl, ownB, if_neg c]
        simp [pre']
  refine ⟨hcom, hne, ⟨s0, hs0⟩, fun c => ?_, fun c => ?_⟩
  · obtain ⟨k1, k2, r, hk⟩ := hrs c
    obtain ⟨x, xs, e1, e2, e3⟩ := hkl hk
    have e0 : pre' q (entT (.node lab rs ks)) = pre' (q ++ lab) (entL ks) := by rw [hl, c]; rfl
    refine ⟨?_, e0⟩
    rw [e0, e1]
    simp only [pre', List.map_cons, List.headD_cons, List.length_append]
    have := List.length_pos_iff.2 e3
    omega
  · rw [hl, ownB, if_neg c]; simp [pre']
theorem f164 (dd : Nat) (ih : CSpecOk E 132 (s132 dd)) (nl : OBo) (tt : Bool) (l : List Ent) (n : Int) (t : Nd) (hl : l.length < 4294967295) (ht : IsN (dd + 1) l n t) :
    call E 164 [.c (.sl 2 nl tt (ents l)), V.i n] [] = some ([VT t], []) := by
  have hct : (ctOf [(178, s178), (132, s132 dd)]).ok E := ctOf_cons s178_ok (ctOf_cons ih ctOf_nil)
  refine call_of (E := E) (sh := sh) (ct := ctOf [(178, s178), (132, s132 dd)]) (na := 2) (m := 0) hct rfl rfl rfl rfl rfl rfl ?_
  show (p164 dd).fd ((p164 dd).ft _ _) = _
  obtain ⟨q, m, h1, h2, h3, rfl, rfl⟩ := ht
  obtain ⟨lab, rs, ks⟩ := t
  obtain ⟨a1, a2, ⟨s0, a3⟩, a4, a5⟩ := node_facts lab rs ks q m h1 h2
  have hk : kidsOk ks (m - lab.length) := (okT_iff.1 h1).2.2.2.2
  have hlm : lab.length ≤ m := (okT_iff.1 h1).2.1
  have hdk : depL ks < dd := by rw [depT_eq] at h3; simp only [Nd.kids_node] at h3; omega
  obtain ⟨b1, b2⟩ := theK_eq (d := dd) (l := pre' (q ++ lab) (entL ks)) (n := ((q ++ lab).length : Nat)) ⟨q ++ lab, m - lab.length, hk, by simp; omega, hdk, rfl, rfl⟩
  generalize hL : pre' q (entT (.node lab rs ks)) = L at *
  obtain ⟨h, r, rfl⟩ : ∃ h r, L = h :: r := by cases L with | nil => exact absurd rfl a2 | cons h r => exact ⟨h, r, rfl⟩
  have h0 : (ents (h :: r)).getD (Int.toNat 0) [] = ee h := rfl
  have h00 : Int.toNat 0 < (h :: r).length := Nat.succ_pos _
  have h01 : Int.toNat 1 ≤ (h :: r).length := Nat.succ_pos _
  have hne : ents (h :: r) ≠ [] := by simp [ents]
  have hl2 : (h :: r).length < 4294967296 := by omega
  have a3' : h.1 = (q ++ lab) ++ s0 := a3
  have hqn : (q.length : Int) ≤ 24 := by omega
  have hcl : q.length ≤ (q ++ lab).length := by simp
  have hch : (q ++ lab).length ≤ h.1.length := by rw [a3']; simp
  have htk : List.drop q.length (List.take (q ++ lab).length h.1) = lab := by rw [a3', List.take_left' rfl]; simp
  have hdr : List.drop (Int.toNat 1) (ents (h :: r)) = ents r := rfl
  rw [t164]
  by_cases c : rs = []
  · obtain ⟨c1, c2⟩ := a4 c
    have c1' : ((h.1.length : Int) == (((q ++ lab).length : Nat) : Int)) = false := by rw [beq_eq_false_iff_ne]; intro e; exact c1 (show h.1.length = (q ++ lab).length by omega)
    rw [← c2] at b1 b2
    simp only [fd_br, fd_chk', fd_leaf, if_true, isEs_ents, toEs_ents, ents_length, hl, hl2, hne, ne_eq, not_false_eq_true, decide_true, Int.natCast_nonneg, hqn, Int.toNat_natCast, a1, h0, h00, ee_ok, ee_p, hcl, hch, c1', Bool.false_eq_true, if_false, b1, b2, htk]
    subst c; rfl
  · have c2 := a5 c
    obtain ⟨rfl, rfl⟩ : h = (q ++ lab, rs) ∧ r = pre' (q ++ lab) (entL ks) := by simpa using c2
    have c1' : ((((q ++ lab, rs) : Ent).1.length : Int) == (((q ++ lab).length : Nat) : Int)) = true := by simp
    have hle : ∀ n : Nat, decide (n ≤ n) = true := fun n => by simp
    have hrl : (pre' (q ++ lab) (entL ks)).length < 4294967295 := by rw [List.length_cons] at hl; omega
    have htl : List.take (((q ++ lab, rs) : Ent) :: pre' (q ++ lab) (entL ks)).length (ents (((q ++ lab, rs) : Ent) :: pre' (q ++ lab) (entL ks))) = ents (((q ++ lab, rs) : Ent) :: pre' (q ++ lab) (entL ks)) := ents_take _ _ rfl
    simp only [fd_br, fd_chk', fd_leaf, if_true, isEs_ents, toEs_ents, ents_length, hl, hl2, hne, ne_eq, not_false_eq_true, decide_true, Int.natCast_nonneg, hqn, Int.toNat_natCast, a1, h0, h00, h01, ee_ok, ee_p, ee_r, hcl, hch, c1', b1, b2, htk, hle, htl, hdr, hrl]
    rfl
theorem s164_of (dd : Nat) (ih : CSpecOk E 132 (s132 dd)) : CSpecOk E 164 (s164 dd) := by
  intro a h cs vals h' he hc
  unfold s164 at he
  split at he <;> simp only [Option.some.injEq, Prod.mk.injEq, reduceCtorEq] at he
  rename_i nl tt xs n
  obtain ⟨rfl, rfl, rfl⟩ := he
  simp only [allT, Bool.and_true, Bool.and_eq_true, decide_eq_true_eq] at hc
  obtain ⟨h1, h2, h3⟩ := hc
  obtain ⟨l, rfl⟩ := ents_ex h1
  rw [ents_length] at h2
  rw [toEs_ents] at h3 ⊢
  obtain ⟨t, ht⟩ := hasN_ex h3
  rw [(theN_eq ht).2]
  exact f164 dd ih nl tt l n t h2 ht
abbrev posE (ks : List Nd) (j : Nat) : Nat := (entL (ks.take j)).length
theorem posE_succ {ks : List Nd} {j : Nat} (h : j < ks.length) : posE ks (j + 1) = posE ks j + (entT ks[j]).length := by
  unfold posE; rw [entL_take h, List.length_append]
theorem posE_le (ks : List Nd) (j : Nat) : posE ks j ≤ (entL ks).length := entL_take_le ks j
theorem entL_parts {ks : List Nd} {j : Nat} (h : j < ks.length) : entL ks = entL (ks.take j) ++ (entT ks[j] ++ entL (ks.drop (j + 1))) := by
  have := congrArg entL (List.take_append_drop (j + 1) ks).symm
  rw [entL_app, entL_take h, List.append_assoc] at this
  exact this
theorem pre'_len (q : Bys) (l : List Ent) : (pre' q l).length = l.length := List.length_map _
theorem entL_at {ks : List Nd} {j k : Nat} (h : j < ks.length) (hk : k < (entT ks[j]).length) (q : Bys) : (pre' q (entL ks))[posE ks j + k]? = some (q ++ (entT ks[j])[k].1, (entT ks[j])[k].2) := by
  rw [pre', List.getElem?_map, entL_parts h, List.getElem?_append_right (Nat.le_add_right _ _), Nat.add_sub_cancel_left, List.getElem?_append_left hk, List.getElem?_eq_getElem hk]
  rfl
theorem byte_eq (a b : UInt8) : (((a.toNat : Nat) : Int) == ((b.toNat : Nat) : Int)) = decide (a = b) := by
  have := byte_ne a b
  rw [bne] at this
  cases h : (((a.toNat : Nat) : Int) == ((b.toNat : Nat) : Int)) <;> rw [h] at this <;> simpa using this
theorem entry_at {ks : List Nd} {n j k : Nat} (hk : kidsOk ks n) (h : j < ks.length) (hl : k < (entT ks[j]).length) (q : Bys) : q.length < (q ++ (entT ks[j])[k].1).length ∧ at0 (q ++ (entT ks[j])[k].1) q.length = at0 ks[j].lab 0 := by
  obtain ⟨s, hs⟩ := entT_pre ks[j] _ (List.getElem_mem hl)
  have hne := (okT_iff.1 (hk.1 _ (List.getElem_mem h))).1
  have hlp := List.length_pos_iff.2 hne
  rw [hs]
  refine ⟨by simp; omega, ?_⟩
  rw [at0_app]
  exact at0_hd (hdB_app hne)
theorem inner132 (dd : Nat) (hct : (ctOf [(164, s164 dd)]).ok E) (nl : OBo) (tt : Bool) {ks : List Nd} {n : Nat} (q : Bys) (hk : kidsOk ks n) (hq : q.length + n ≤ 24) (hd : depL ks < dd + 1) (hl : (entL ks).length < 4294967295) (hkl : ks.length < 4294967295) {j : Nat} (hj : j < ks.length) :
    (p132 dd).ld b132_0 (Tr.ls 0 (s132_0_0 nl tt (ents (pre' q (entL ks))) q.length j (posE ks j) (posE ks j) (encL (ks.take j)))) = some (R.s (s132_0 nl tt (ents (pre' q (entL ks))) q.length ((j + 1 : Nat)) (posE ks (j + 1) : Nat) (encL (ks.take (j + 1))))) := by
  have hlen : (pre' q (entL ks)).length = (entL ks).length := pre'_len _ _
  have hpl := posE_le ks (j + 1)
  have hps := posE_succ hj
  have hT := hk.1 _ (List.getElem_mem hj)
  have hpos := List.length_pos_iff.2 (entT_some _ _ hT)
  -- an entry of this kid
  have at_ : ∀ k, (hk2 : k < (entT ks[j]).length) → ∃ e : Ent, ∃ h : posE ks j + k < (pre' q (entL ks)).length, (pre' q (entL ks))[posE ks j + k] = e ∧ q.length < e.1.length ∧ at0 e.1 q.length = at0 ks[j].lab 0 := fun k hk2 => by
    obtain ⟨h1, h2⟩ := List.getElem?_eq_some_iff.1 (entL_at hj hk2 q)
    exact ⟨_, h1, h2, (entry_at hk hj hk2 q).1, (entry_at hk hj hk2 q).2⟩
  obtain ⟨e0, h0, e0e, e0l, e0b⟩ := at_ 0 hpos
  rw [Nat.add_zero] at h0
  have e0e' : (pre' q (entL ks))[posE ks j] = e0 := by rw [← e0e]; rfl
  refine ld_post (p := p132 dd) hct (by kernel_rfl) rfl (list_post (p := p132 dd) hct (b := b132_0_0) (entT ks[j]).length (fun k (_ : Unit) => s132_0_0 nl tt (ents (pre' q (entL ks))) q.length j (posE ks j) ((posE ks j + k : Nat)) (encL (ks.take j))) (fun _ _ => True) _ ?_ ?_ 0 (Nat.zero_le _) () trivial)
  · intro k _ hk2 _
    refine .inl ⟨(), trivial, ?_⟩
    obtain ⟨e, h1, h2, h3, h4⟩ := at_ k hk2
    rw [t132_0_0]
    simp only [ld_br, ld_chk', ld_leaf, fd_br, fd_chk', fd_leaf, decide_true, decide_eq_true_eq, if_true, Int.toNat_natCast, Int.natCast_nonneg, Int.ofNat_lt, Int.ofNat_le, Bool.false_eq_true, if_false, bne_iff_ne, beq_iff_eq, ne_eq, not_true_eq_false, not_false_eq_true, Bool.not_eq_true', decide_eq_false_iff_not, reduceCtorEq, rows_length, pcs_length, er_ok, er_ok', ep_ok, ep_ok', dr_er, dp_ep, isRows_rows, isPcs_pcs, toRows_rows, toPcs_pcs, rows_take, rows_drop, pcs_take, pcs_drop, rows_append, pcs_append, ints_length, isInts_ints, toInts_ints, ei_i, ei_ok, mk_headD, ints_take, ints_drop, ints_append, ints_snoc, ints_snoc', List.take_length, Nat.zero_add, Nat.le_refl, er_a, er_b, er_k, er_n, er_s, er_v, ep_a, ep_b, ep_hk, ep_hn, ep_hs, ep_wk, ep_wn, ep_ws, ents_length, h1, h0, ents_getD h1, ents_getD h0, e0e', h2, ee_ok, ee_p, h3, e0l, byte_eq, at0_def, h4, e0b, wrap_succ (show posE ks j + k < 9223372036854775807 by omega)]
    rfl
  · intro _ _
    refine ⟨x132_0_0x0 nl tt (ents (pre' q (entL ks))) q.length j (posE ks j) ((posE ks (j + 1) : Nat)) (encL (ks.take j)), by simp, ?_, ?_⟩
    · have hsl : List.drop (posE ks j) (List.take (posE ks (j + 1)) (ents (pre' q (entL ks)))) = ents (pre' q (entT ks[j])) := by
        unfold ents
        rw [← List.map_take, ← List.map_drop]
        congr 1
        unfold pre'
        rw [← List.map_take, ← List.map_drop]
        congr 1
        rw [entL_parts hj, hps, ← List.append_assoc, List.take_left' (by rw [List.length_append]), List.drop_left']
        rfl
      obtain ⟨b1, b2⟩ := theN_eq (d := dd + 1) (l := pre' q (entT ks[j])) (n := (q.length : Nat)) ⟨q, n, hT, hq, by have := depL_mem (List.getElem_mem hj); omega, rfl, rfl⟩
      have hle : (pre' q (entT ks[j])).length < 4294967295 := by rw [pre'_len]; omega
      have hp1 : posE ks j ≤ posE ks (j + 1) := by omega
      have hp2 : posE ks (j + 1) ≤ (pre' q (entL ks)).length := by omega
      have htk : List.take j (encL (ks.take j)) = encL (ks.take j) := List.take_of_length_le (by simp; omega)
      have hsn : encL (ks.take j) ++ [[C.str ks[j].lab, C.sl 5 none false (rows ks[j].rows), C.sl 3 none false (encL ks[j].kids)]] = encL (ks.take (j + 1)) := by
        rw [← Nd.enc_eq, List.take_succ_eq_append_getElem hj, encL_map, encL_map, List.map_append]; rfl
      rw [k132_0_0x0]
      simp only [ld_chk', ld_leaf, if_true, ents_length, Int.natCast_nonneg, Int.toNat_natCast, decide_true, hp1, hp2, hsl, isEs_ents, toEs_ents, hle, b1, b2, htk, hsn, show j + 1 < 4294967296 by omega]
    · rw [t132_0_0, ← hps]
      by_cases hj2 : j + 1 < ks.length
      · have hT2 := hk.1 _ (List.getElem_mem hj2)
        have hpos2 := List.length_pos_iff.2 (entT_some _ _ hT2)
        obtain ⟨h1, h2⟩ := List.getElem?_eq_some_iff.1 (entL_at hj2 hpos2 q)
        rw [Nat.add_zero] at h1
        obtain ⟨n1, n2⟩ := entry_at hk hj2 hpos2 q
        have h2' : (pre' q (entL ks))[posE ks (j + 1)] = (q ++ (entT ks[j + 1])[0].1, (entT ks[j + 1])[0].2) := by rw [← h2]; rfl
        have hlt : hdB ks[j].lab < hdB ks[j + 1].lab := List.pairwise_iff_getElem.1 hk.2 j (j + 1) hj hj2 (by omega)
        have hne : ¬ at0 ks[j + 1].lab 0 = at0 ks[j].lab 0 := at0_ne (by omega)
        simp only [ld_br, ld_chk', ld_leaf, fd_br, fd_chk', fd_leaf, decide_true, decide_eq_true_eq, if_true, Int.toNat_natCast, Int.natCast_nonneg, Int.ofNat_lt, Int.ofNat_le, Bool.false_eq_true, if_false, bne_iff_ne, beq_iff_eq, ne_eq, not_true_eq_false, not_false_eq_true, Bool.not_eq_true', decide_eq_false_iff_not, reduceCtorEq, rows_length, pcs_length, er_ok, er_ok', ep_ok, ep_ok', dr_er, dp_ep, isRows_rows, isPcs_pcs, toRows_rows, toPcs_pcs, rows_take, rows_drop, pcs_take, pcs_drop, rows_append, pcs_append, ints_length, isInts_ints, toInts_ints, ei_i, ei_ok, mk_headD, ints_take, ints_drop, ints_append, ints_snoc, ints_snoc', List.take_length, Nat.zero_add, Nat.le_refl, er_a, er_b, er_k, er_n, er_s, er_v, ep_a, ep_b, ep_hk, ep_hn, ep_hs, ep_wk, ep_wn, ep_ws, ents_length, h1, h0, ents_getD h1, ents_getD h0, e0e', h2', ee_ok, ee_p, n1, e0l, byte_eq, at0_def, n2, e0b, hne]
      · have : posE ks (j + 1) = (entL ks).length := by
          unfold posE; rw [List.take_of_length_le (by omega)]
        have hn : ¬ (((posE ks (j + 1) : Nat) : Int) < ((pre' q (entL ks)).length : Nat)) := by omega
        simp only [ld_br, ld_chk', ld_leaf, fd_br, fd_chk', fd_leaf, decide_true, decide_eq_true_eq, if_true, Int.toNat_natCast, Int.natCast_nonneg, Int.ofNat_lt, Int.ofNat_le, Bool.false_eq_true, if_false, bne_iff_ne, beq_iff_eq, ne_eq, not_true_eq_false, not_false_eq_true, Bool.not_eq_true', decide_eq_false_iff_not, reduceCtorEq, rows_length, pcs_length, er_ok, er_ok', ep_ok, ep_ok', dr_er, dp_ep, isRows_rows, isPcs_pcs, toRows_rows, toPcs_pcs, rows_take, rows_drop, pcs_take, pcs_drop, rows_append, pcs_append, ints_length, isInts_ints, toInts_ints, ei_i, ei_ok, mk_headD, ints_take, ints_drop, ints_append, ints_snoc, ints_snoc', List.take_length, Nat.zero_add, Nat.le_refl, er_a, er_b, er_k, er_n, er_s, er_v, ep_a, ep_b, ep_hk, ep_hn, ep_hs, ep_wk, ep_wn, ep_ws, ents_length, hlen, this, Int.lt_irrefl]
theorem kids_le_ents {ks : List Nd} {n : Nat} (h : kidsOk ks n) : ks.length ≤ (entL ks).length := by
  induction ks with
  | nil => simp
  | cons t r ih =>
    have h1 := List.length_pos_iff.2 (entT_some t n (h.1 t (by simp)))
    have h2 := ih (kidsOk_sub h (List.sublist_cons_self _ _))
    rw [entL, List.length_append, List.length_cons]; omega
theorem f132 (dd : Nat) (ih : CSpecOk E 164 (s164 dd)) (nl : OBo) (tt : Bool) (l : List Ent) (n : Int) (ks : List Nd) (hl : l.length < 4294967295) (ht : IsK (dd + 1) l n ks) :
    call E 132 [.c (.sl 2 nl tt (ents l)), V.i n] [] = some ([.c (.sl 3 none false (encL ks))], []) := by
  have hct : (ctOf [(164, s164 dd)]).ok E := ctOf_cons ih ctOf_nil
  refine call_of (E := E) (sh := sh) (ct := ctOf [(164, s164 dd)]) (na := 2) (m := 0) hct rfl rfl rfl rfl rfl rfl ?_
  show (p132 dd).fd ((p132 dd).ft _ _) = _
  obtain ⟨q, m, h1, h2, h3, rfl, rfl⟩ := ht
  rw [pre'_len] at hl
  have hkl := kids_le_ents h1
  rw [t132]
  refine fd_post (p := p132 dd) hct (by kernel_rfl) rfl (list_post (p := p132 dd) hct (b := b132_0) ks.length (fun j (_ : Unit) => s132_0 nl tt (ents (pre' q (entL ks))) q.length j (posE ks j : Nat) (encL (ks.take j))) (fun _ _ => True) _ ?_ ?_ 0 (Nat.zero_le _) () trivial)
  · intro j _ hj _
    refine .inl ⟨(), trivial, ?_⟩
    have hps := posE_succ hj
    have hpos := List.length_pos_iff.2 (entT_some _ _ (h1.1 _ (List.getElem_mem hj)))
    have hple := posE_le ks (j + 1)
    rw [t132_0, ld_br, if_pos (by rw [ents_length, pre'_len]; exact decide_eq_true (by omega))]
    exact inner132 dd hct nl tt q h1 h2 h3 (by omega) (by omega) hj
  · intro _ _
    have he : posE ks ks.length = (entL ks).length := by unfold posE; rw [List.take_length]
    refine ⟨x132_0x0 nl tt (ents (pre' q (entL ks))) q.length ks.length (posE ks ks.length : Nat) (encL (ks.take ks.length)), by simp, ?_, ?_⟩
    · rw [k132_0x0, fd_leaf, List.take_length, List.take_of_length_le (by simp)]
    · rw [t132_0, he]; simp only [ld_br, ld_chk', ld_leaf, fd_br, fd_chk', fd_leaf, decide_true, decide_eq_true_eq, if_true, Int.toNat_natCast, Int.natCast_nonneg, Int.ofNat_lt, Int.ofNat_le, Bool.false_eq_true, if_false, bne_iff_ne, beq_iff_eq, ne_eq, not_true_eq_false, not_false_eq_true, Bool.not_eq_true', decide_eq_false_iff_not, reduceCtorEq, rows_length, pcs_length, er_ok, er_ok', ep_ok, ep_ok', dr_er, dp_ep, isRows_rows, isPcs_pcs, toRows_rows, toPcs_pcs, rows_take, rows_drop, pcs_take, pcs_drop, rows_append, pcs_append, ints_length, isInts_ints, toInts_ints, ei_i, ei_ok, mk_headD, ints_take, ints_drop, ints_append, ints_snoc, ints_snoc', List.take_length, Nat.zero_add, Nat.le_refl, er_a, er_b, er_k, er_n, er_s, er_v, ep_a, ep_b, ep_hk, ep_hn, ep_hs, ep_wk, ep_wn, ep_ws, ents_length, pre'_len, Int.lt_irrefl]
theorem s132_ok : ∀ d, CSpecOk E 132 (s132 d)
  | 0 => by
    intro a h cs vals h' he hc
    unfold s132 at he
    split at he <;> simp only [Option.some.injEq, Prod.mk.injEq, reduceCtorEq] at he
    obtain ⟨rfl, rfl, rfl⟩ := he
    simp only [allT, Bool.and_true, Bool.and_eq_true, decide_eq_true_eq] at hc
    obtain ⟨t, q, m, _, _, h, _⟩ := hasK_ex hc.2.2
    omega
  | d + 1 => by
    intro a h cs vals h' he hc
    unfold s132 at he
    split at he <;> simp only [Option.some.injEq, Prod.mk.injEq, reduceCtorEq] at he
    rename_i nl tt xs n
    obtain ⟨rfl, rfl, rfl⟩ := he
    simp only [allT, Bool.and_true, Bool.and_eq_true, decide_eq_true_eq] at hc
    obtain ⟨h1, h2, h3⟩ := hc
    obtain ⟨l, rfl⟩ := ents_ex h1
    rw [ents_length] at h2
    rw [toEs_ents] at h3 ⊢
    obtain ⟨t, ht⟩ := hasK_ex h3
    rw [(theK_eq ht).2]
    exact f132 d (s164_of d (s132_ok d)) nl tt l n t (by omega) ht
theorem f79 (dd : Nat) (nl : OBo) (tt : Bool) (l : List Ent) (ks : List Nd) (hl : l.length < 4294967295) (ht : IsK dd l 0 ks) : call E 79 [.c (.sl 2 nl tt (ents l))] [] = some ([VT (.node [] [] ks)], []) := by
  refine call_of (E := E) (sh := sh) (ct := ctOf [(132, s132 dd)]) (na := 1) (m := 0) (ctOf_cons (s132_ok dd) ctOf_nil) rfl rfl rfl rfl rfl rfl ?_
  show (p79 dd).fd ((p79 dd).ft _ _) = _
  obtain ⟨b1, b2⟩ := theK_eq ht
  rw [t79]
  simp only [fd_chk', fd_leaf, if_true, isEs_ents, toEs_ents, ents_length, hl, decide_true, b1, b2]
  rfl
end Go.Proofs.YtgaabjmbnomimaaDoor
namespace Go.Proofs.YtgaabjmbnomimaaDoor
open Go Go.Ev
abbrev Str (x : List (List UInt8)) : Prop := x.Pairwise fun a b => Op.bytesLess a b = true
theorem insG_put : ∀ {x : List (List UInt8)} {p : List UInt8}, (∀ a ∈ x, Op.bytesLess p a = true) → insG true p x = x
  | [], _, _ => rfl
  | a :: r, p, h => by
    have h1 := h a (by simp)
    have hne : (a == p) = false := by rw [beq_eq_false_iff_ne]; exact fun e => bl_ne h1 e.symm
    rw [insG, hne]
    simp only [Bool.not_true, Bool.false_and, cond_false, List.nil_append, Bool.true_or, List.singleton_append]
    rw [insG_put fun b hb => h b (by simp [hb])]
theorem insG_spec : ∀ {x : List (List UInt8)} {p : List UInt8}, Str x → Str (insG false p x) ∧ ∀ q, q ∈ insG false p x ↔ q = p ∨ q ∈ x
  | [], p, _ => ⟨by simp [insG], by simp [insG]⟩
  | a :: r, p, h => by
    rw [Str, List.pairwise_cons] at h
    rw [insG]
    cases c : Op.bytesLess a p with
    | true =>
      have hne : (a == p) = false := by rw [beq_eq_false_iff_ne]; exact bl_ne c
      obtain ⟨i1, i2⟩ := insG_spec (p := p) h.2
      simp only [Bool.not_true, Bool.and_false, cond_false, List.nil_append, hne, Bool.or_false, List.singleton_append]
      refine ⟨List.pairwise_cons.2 ⟨fun b hb => ?_, i1⟩, fun q => ?_⟩
      · rcases (i2 b).1 hb with rfl | hb
        · exact c
        · exact h.1 b hb
      · rw [List.mem_cons, List.mem_cons, i2]
        constructor
        · rintro (k | k | k)
          · exact .inr (.inl k)
          · exact .inl k
          · exact .inr (.inr k)
        · rintro (k | k | k)
          · exact .inr (.inl k)
          · exact .inl k
          · exact .inr (.inr k)
    | false =>
      have hgt : ∀ b ∈ r, Op.bytesLess p b = true := fun b hb => by
        cases d : Op.bytesLess p a with
        | true => exact bl_trans d (h.1 b hb)
        | false => rw [← bl_total _ _ c d]; exact h.1 b hb
      simp only [Bool.not_false, Bool.and_self, cond_true, Bool.false_or]
      rw [insG_put hgt]
      by_cases e : a = p
      · subst e
        simp only [beq_self_eq_true, cond_true, List.nil_append, List.singleton_append]
        exact ⟨List.pairwise_cons.2 h, fun q => by simp⟩
      · have hne : (a == p) = false := by rw [beq_eq_false_iff_ne]; exact e
        simp only [hne, cond_false, List.singleton_append]
        have hpa := bl_gt c e
        refine ⟨List.pairwise_cons.2 ⟨fun b hb => ?_, List.pairwise_cons.2 h⟩, fun q => by simp⟩
        rcases List.mem_cons.1 hb with rfl | hb
        · exact hpa
        · exact hgt b hb
theorem insG_len : ∀ (put : Bool) (p : Bys) (x : List (List UInt8)), (insG put p x).length ≤ x.length + (cond put 0 1)
  | put, p, [] => by cases put <;> simp [insG]
  | put, p, a :: r => by
    rw [insG]
    have h1 := insG_len (put || !Op.bytesLess a p) p r
    cases put <;> cases hb : Op.bytesLess a p <;> rw [hb] at h1 <;> cases (a == p) <;> simp at h1 ⊢ <;> omega
theorem pathsF_spec : ∀ {l : List Ent} {x : List (List UInt8)}, Str x → Str (pathsF x l) ∧ ∀ q, q ∈ pathsF x l ↔ q ∈ x ∨ ∃ e ∈ l, e.1 = q
  | [], x, h => ⟨h, fun q => by simp [pathsF]⟩
  | e :: r, x, h => by
    obtain ⟨i1, i2⟩ := insG_spec (p := e.1) h
    obtain ⟨j1, j2⟩ := pathsF_spec (l := r) i1
    rw [pathsF]
    refine ⟨j1, fun q => ?_⟩
    rw [j2, i2]
    constructor
    · rintro ((k | k) | ⟨d, hd, k⟩)
      · exact .inr ⟨e, by simp, k.symm⟩
      · exact .inl k
      · exact .inr ⟨d, by simp [hd], k⟩
    · rintro (k | ⟨d, hd, k⟩)
      · exact .inl (.inr k)
      · rcases List.mem_cons.1 hd with rfl | hd
        · exact .inl (.inl k.symm)
        · exact .inr ⟨d, hd, k⟩
theorem pathsF_len : ∀ (l : List Ent) (x : List (List UInt8)), (pathsF x l).length ≤ x.length + l.length
  | [], x => by simp [pathsF]
  | e :: r, x => by
    have h1 := pathsF_len r (insG false e.1 x)
    have h2 := insG_len false e.1 x
    rw [pathsF, List.length_cons]
    simp only [cond_false] at h2; omega
def allP (a b c : Nd) : List (List UInt8) := pathsF (pathsF (pathsF [] (entP a)) (entP b)) (entP c)
theorem allP_spec (a b c : Nd) : Str (allP a b c) ∧ ∀ q, q ∈ allP a b c ↔ getR a q ≠ [] ∨ getR b q ≠ [] ∨ getR c q ≠ [] := by
  obtain ⟨a1, a2⟩ := pathsF_spec (l := entP a) (x := []) .nil
  obtain ⟨b1, b2⟩ := pathsF_spec (l := entP b) a1
  obtain ⟨c1, c2⟩ := pathsF_spec (l := entP c) b1
  refine ⟨c1, fun q => ?_⟩
  have key : ∀ t : Nd, (∃ e ∈ entP t, e.1 = q) ↔ getR t q ≠ [] := fun t => by
    rw [getR_P]
    constructor
    · rintro ⟨e, he, rfl⟩
      rw [look_in (gd_entP t).rise he]; exact (gd_entP t).rne e he
    · exact look_ex
  unfold allP
  rw [c2, b2, a2, key, key, key]
  simp [or_assoc]
def metQ (a b c : List Row) : List Row := if b = c then b else if a = b then c else b
def refE (a b c : Nd) : List (List UInt8) → List Ent
  | [] => []
  | p :: r => (match metQ (getR a p) (getR b p) (getR c p) with | [] => [] | x :: l => [(p, x :: l)]) ++ refE a b c r
def refB (a b c : Nd) (l : List (List UInt8)) : List (List UInt8) := l.filter fun p => bad3 (getR a p) (getR b p) (getR c p)
theorem refE_mem {a b c : Nd} {l : List (List UInt8)} {e : Ent} (h : e ∈ refE a b c l) : e.1 ∈ l ∧ e.2 = metQ (getR a e.1) (getR b e.1) (getR c e.1) ∧ e.2 ≠ [] := by
  induction l with
  | nil => cases h
  | cons p r ih =>
    rw [refE] at h
    rcases List.mem_append.1 h with h | h
    · split at h
      · cases h
      · rename_i hm
        simp only [List.mem_singleton] at h; subst h
        exact ⟨by simp, hm.symm, by simp⟩
    · obtain ⟨h1, h2⟩ := ih h
      exact ⟨by simp [h1], h2⟩
theorem refE_rise {a b c : Nd} {l : List (List UInt8)} (h : Str l) : Rise (refE a b c l) := by
  induction l with
  | nil => exact .nil
  | cons p r ih =>
    rw [Str, List.pairwise_cons] at h
    rw [refE, Rise, List.pairwise_append]
    refine ⟨by split <;> simp, ih h.2, fun x hx y hy => ?_⟩
    split at hx
    · cases hx
    · simp only [List.mem_singleton] at hx; subst hx
      exact h.1 y.1 (refE_mem hy).1
theorem refE_look {a b c : Nd} {l : List (List UInt8)} {q : List UInt8} (h2 : metQ (getR a q) (getR b q) (getR c q) ≠ [] → q ∈ l) : look (refE a b c l) q = metQ (getR a q) (getR b q) (getR c q) := by
  induction l with
  | nil =>
    by_cases k : metQ (getR a q) (getR b q) (getR c q) = []
    · rw [k]; rfl
    · have := h2 k; cases this
  | cons p r ih =>
    rw [refE]
    by_cases e : p = q
    · subst e
      cases hm : metQ (getR a p) (getR b p) (getR c p) with
      | nil => rw [hm] at ih; exact ih (fun h => absurd rfl h)
      | cons x l => simp [look]
    · have hl : look (refE a b c r) q = metQ (getR a q) (getR b q) (getR c q) := ih fun h => by
        rcases List.mem_cons.1 (h2 h) with k | k
        · exact absurd k.symm e
        · exact k
      split
      · exact hl
      · simp only [List.singleton_append, look, if_neg e]; exact hl
theorem metQ_some {a b c : List Row} (h : metQ a b c ≠ []) : b ≠ [] ∨ c ≠ [] := by
  unfold metQ at h
  split at h
  · exact .inl h
  · split at h
    · exact .inr h
    · exact .inl h
theorem metQ_met {a b c : List Row} (h : bad3 a b c ≠ true) : metQ a b c = met3 a b c := by
  simp only [bad3, ne_eq, decide_eq_true_eq] at h
  unfold metQ met3
  by_cases h1 : b = c
  · rw [if_pos h1, if_pos (.inl h1)]
  · rw [if_neg h1]
    by_cases h2 : a = b
    · subst h2
      rw [if_pos rfl, if_neg (by rintro (k | k); exact h1 k; exact h1 k)]
    · rw [if_neg h2]
      by_cases h3 : a = c
      · rw [if_pos (.inr h3)]
      · exact (h ⟨h1, h3, h2⟩).elim
theorem refB_bad (a b c : Nd) : refB a b c (allP a b c) = badT a b c := by
  obtain ⟨h1, h2⟩ := allP_spec a b c
  refine str_ext (h1.sublist List.filter_sublist) (badT_rise a b c) fun q => ?_
  rw [badT_mem, refB, List.mem_filter, h2]
  refine ⟨fun h => h.2, fun h => ⟨?_, h⟩⟩
  by_cases c1 : getR a q = []
  · by_cases c2 : getR b q = []
    · rw [c1, c2] at h; simp [bad3] at h
    · exact .inr (.inl c2)
  · exact .inl c1
theorem refE_ent {a b c : Nd} (h : badT a b c = []) : refE a b c (allP a b c) = entR (mergeT a b c) := by
  obtain ⟨h1, h2⟩ := allP_spec a b c
  have ho := mergeT_ok a b c
  have hg := gd_ent ho
  refine rise_ext (refE_rise h1) hg.rise (fun e he => (refE_mem he).2.2) hg.rne fun q => ?_
  have hb : bad3 (getR a q) (getR b q) (getR c q) ≠ true := fun k => by
    have := (badT_mem a b c q).2 k
    rw [h] at this; cases this
  rw [refE_look fun k => (h2 q).2 (.inr (metQ_some k)), metQ_met hb, ← entP_R ho, ← getR_P, mergeT_get, if_neg hb]
theorem refE_len {a b c : Nd} (l : List (List UInt8)) : (refE a b c l).length ≤ l.length := by
  induction l with
  | nil => exact Nat.le_refl _
  | cons p r ih =>
    rw [refE, List.length_append, List.length_cons]
    split <;> simp <;> omega
end Go.Proofs.YtgaabjmbnomimaaDoor
