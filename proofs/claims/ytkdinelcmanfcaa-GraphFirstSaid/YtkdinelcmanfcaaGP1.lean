/-
  Chapter 12 (graph): what graph's check computes.
-/
import Derived.Test.YtkdinelcmanfcaaGT1
set_option linter.unusedSimpArgs false
set_option linter.unusedVariables false
namespace Go.Proofs.Ytkdinelcmanfcaa
open Go Go.Ev

theorem noNum_if (len : Nat) (n : Int) : (if n < 1 then true else decide ((len : Int) < n)) = noNum len n := by
  unfold noNum
  by_cases h : n < 1 <;> simp [h]

theorem f49 (n : Int) (nl : Option Bool) (t : Bool) (xs : List (List C)) : call E 49 [V.i n, .ptr 0 0 0 0] [.box [.c (.sl 2 nl t xs)]] = some ([V.b (noNum xs.length n)], [.box [.c (.sl 2 nl t xs)]]) := by
  refine call_of (E := E) (sh := sh) (ct := ctOf []) (na := 2) (m := 1) ctOf_nil rfl rfl rfl rfl rfl rfl ?_
  rw [t49, fd_br]
  simp only [fd_leaf, decide_eq_true_eq, ← noNum_if]
  split <;> rfl
theorem f47 (n : Int) (nl : Option Bool) (t : Bool) (xs : List (List C)) : call E 47 [V.i n, .ptr 0 0 0 0] [.box [.c (.sl 2 nl t xs)]] = some ([V.b (noNum xs.length n)], [.box [.c (.sl 2 nl t xs)]]) := by
  refine call_of (E := E) (sh := sh) (ct := ctOf []) (na := 2) (m := 1) ctOf_nil rfl rfl rfl rfl rfl rfl ?_
  rw [t47, fd_br]
  simp only [fd_leaf, decide_eq_true_eq, ← noNum_if]
  split <;> rfl
theorem f50 (n : Int) (nl : Option Bool) (t : Bool) (l : List Cm) (c : C) (st : Int) (hl : l.length ≤ 500) (hn : noNum l.length n = false) :
    call E 50 [V.i n, .ptr 0 0 0 0, .ptr 1 0 0 0] [.box [.c (.sl 2 nl t (repo l))], .box [.c c, V.i st]] = some ([V.b (lateFor l st n)], [.box [.c (.sl 2 nl t (repo l))], .box [.c c, V.i st]]) := by
  refine call_of (E := E) (sh := sh) (ct := ctOf []) (na := 3) (m := 2) ctOf_nil rfl rfl rfl rfl rfl rfl ?_
  simp only [noNum, Bool.or_eq_false_iff, decide_eq_false_iff_not] at hn
  have hw := wrap_same (n := n - 1) (by omega) (by omega)
  have hi : (n - 1).toNat < l.length := by omega
  rw [t50, hw, fd_chk (by simp; omega), fd_chk rfl, fd_chk (by simpa using hi), repo_getD hi, fd_chk (ec_ok _), fd_leaf]
  have hg : l.getD (n - 1).toNat ([], 0) = l[(n - 1).toNat] := by rw [List.getD_eq_getElem?_getD, List.getElem?_eq_getElem hi]; rfl
  rw [ec_stamp, lateFor, hg]

theorem s49_ok : CSpecOk E 49 s49 := by
  intro a h cs vals h' he hc
  unfold s49 at he
  split at he <;> simp only [Option.some.injEq, Prod.mk.injEq, reduceCtorEq] at he
  obtain ⟨rfl, rfl, rfl⟩ := he
  exact f49 _ _ _ _
theorem s47_ok : CSpecOk E 47 s47 := by
  intro a h cs vals h' he hc
  unfold s47 s49 at he
  split at he <;> simp only [Option.some.injEq, Prod.mk.injEq, reduceCtorEq] at he
  obtain ⟨rfl, rfl, rfl⟩ := he
  exact f47 _ _ _ _
theorem s50_ok : CSpecOk E 50 s50 := by
  intro a h cs vals h' he hc
  unfold s50 at he
  split at he <;> simp only [Option.some.injEq, Prod.mk.injEq, reduceCtorEq] at he
  rename_i n nl t xs c st
  obtain ⟨rfl, rfl, rfl⟩ := he
  simp only [allT, Bool.and_eq_true, Bool.not_eq_true', decide_eq_true_eq, and_true] at hc
  obtain ⟨h1, h2, h3⟩ := hc
  have e := repo_of h1
  have hlen : xs.length = (toRepo xs).length := by simp [toRepo]
  rw [hlen] at h2 h3
  have := f50 n nl t (toRepo xs) c st h3 h2
  rw [← e] at this
  exact this

/-- Where the first one of these is, or -1. -/
def firstAt (Q : Int → Bool) (l : List Int) : Int := match l.findIdx? Q with
  | some i => i
  | none => -1

theorem findIdx_drop {Q : Int → Bool} {l : List Int} {k : Nat} (h : ∀ j (hj : j < l.length), j < k → Q l[j] = false) (hk : k < l.length) (hq : Q l[k] = true) : l.findIdx? Q = some k := by
  rw [List.findIdx?_eq_some_iff_getElem]
  exact ⟨hk, hq, fun j hj => by simpa using h j (by omega) hj⟩

theorem f51a (l : List Int) (nl : Option Bool) (t : Bool) (nl2 : Option Bool) (t2 : Bool) (ys : List (List C)) (hl : l.length ≤ 4294967296) :
    call E 51 [.c (.sl 1 nl t (ints l)), .fn 49 [.ptr 0 0 0 0]] [.box [.c (.sl 2 nl2 t2 ys)]] = some ([V.i (firstAt (noNum ys.length) l)], [.box [.c (.sl 2 nl2 t2 ys)]]) := by
  have hct : CT.ok E (ctOf [(49, s49)]) := ctOf_cons s49_ok ctOf_nil
  refine call_of (E := E) (sh := sh) (ct := ctOf [(49, s49)]) (na := 2) (m := 1) hct rfl rfl rfl rfl rfl rfl ?_
  rw [t51a]
  have hloop := loop_of (p := p51a) hct (b := b51) (fun k : Nat => ([(0, .c (.sl 1 nl t (ints l))), (1, .fn 49 [.ptr 0 0 0 0]), (7, V.i l.length), (8, V.i k)], [.box [.c (.sl 2 nl2 t2 ys)]]))
    (fun k => k ≤ l.length ∧ ∀ j (hj : j < l.length), j < k → noNum ys.length l[j] = false) (fun k => l.length - k)
    (fun _ => match l.findIdx? (noNum ys.length) with
      | some i => (.ret, [(4, V.i i)], [.box [.c (.sl 2 nl2 t2 ys)]])
      | none => (.exit 0, [(0, .c (.sl 1 nl t (ints l))), (1, .fn 49 [.ptr 0 0 0 0]), (7, V.i l.length), (8, V.i l.length), (9, V.b false)], [.box [.c (.sl 2 nl2 t2 ys)]]))
    (by
      rintro k ⟨hk, hq⟩
      simp only [t51a_0]
      rcases Nat.lt_or_ge k l.length with h | h
      · have hget : l.getD k 0 = l[k] := by rw [List.getD_eq_getElem?_getD, List.getElem?_eq_getElem h]; rfl
        have hw := wrap_same (n := (k : Int) + 1) (by omega) (by omega)
        simp only [ld_br, ld_chk, ints_length, Int.toNat_natCast, ints_getD h, ei_ok, ei_i, hget, hw, ld_leaf, h, Int.ofNat_lt, decide_true, Int.natCast_nonneg, if_true]
        cases hx : noNum ys.length l[k] with
        | true =>
          rw [findIdx_drop hq h hx]
          exact .inr ⟨by simp, by simp⟩
        | false =>
          refine .inl ⟨k + 1, ⟨by omega, fun j hj hjk => ?_⟩, by omega, trivial, by simp⟩
          rcases Nat.lt_or_ge j k with h' | h'
          · exact hq j hj h'
          · have : j = k := by omega
            subst this; exact hx
      · have : k = l.length := by omega
        subst this
        have : l.findIdx? (noNum ys.length) = none := by
          rw [List.findIdx?_eq_none_iff]
          intro x hx
          obtain ⟨j, hj, rfl⟩ := List.getElem_of_mem hx
          exact hq j hj hj
        rw [this]
        refine .inr ⟨by simp, ?_⟩
        simp [ld_br, ld_leaf]) 0 ⟨Nat.zero_le _, fun j hj h => by omega⟩
  rw [ints_length]
  unfold firstAt
  cases h : l.findIdx? (noNum ys.length) with
  | none =>
    simp only [h] at hloop
    exact fd_lp (p := p51a) hct (by kernel_rfl) hloop (by rw [t51a_0x1]; rfl)
  | some i =>
    simp only [h] at hloop
    exact fd_lp (p := p51a) hct (by kernel_rfl) hloop (by rw [t51a_0x0]; rfl)
theorem f51c (l : List Int) (nl : Option Bool) (t : Bool) (nl2 : Option Bool) (t2 : Bool) (ys : List (List C)) (hl : l.length ≤ 4294967296) :
    call E 51 [.c (.sl 1 nl t (ints l)), .fn 47 [.ptr 0 0 0 0]] [.box [.c (.sl 2 nl2 t2 ys)]] = some ([V.i (firstAt (noNum ys.length) l)], [.box [.c (.sl 2 nl2 t2 ys)]]) := by
  have hct : CT.ok E (ctOf [(47, s47)]) := ctOf_cons s47_ok ctOf_nil
  refine call_of (E := E) (sh := sh) (ct := ctOf [(47, s47)]) (na := 2) (m := 1) hct rfl rfl rfl rfl rfl rfl ?_
  rw [t51c]
  have hloop := loop_of (p := p51c) hct (b := b51) (fun k : Nat => ([(0, .c (.sl 1 nl t (ints l))), (1, .fn 47 [.ptr 0 0 0 0]), (7, V.i l.length), (8, V.i k)], [.box [.c (.sl 2 nl2 t2 ys)]]))
    (fun k => k ≤ l.length ∧ ∀ j (hj : j < l.length), j < k → noNum ys.length l[j] = false) (fun k => l.length - k)
    (fun _ => match l.findIdx? (noNum ys.length) with
      | some i => (.ret, [(4, V.i i)], [.box [.c (.sl 2 nl2 t2 ys)]])
      | none => (.exit 0, [(0, .c (.sl 1 nl t (ints l))), (1, .fn 47 [.ptr 0 0 0 0]), (7, V.i l.length), (8, V.i l.length), (9, V.b false)], [.box [.c (.sl 2 nl2 t2 ys)]]))
    (by
      rintro k ⟨hk, hq⟩
      simp only [t51c_0]
      rcases Nat.lt_or_ge k l.length with h | h
      · have hget : l.getD k 0 = l[k] := by rw [List.getD_eq_getElem?_getD, List.getElem?_eq_getElem h]; rfl
        have hw := wrap_same (n := (k : Int) + 1) (by omega) (by omega)
        simp only [ld_br, ld_chk, ints_length, Int.toNat_natCast, ints_getD h, ei_ok, ei_i, hget, hw, ld_leaf, h, Int.ofNat_lt, decide_true, Int.natCast_nonneg, if_true]
        cases hx : noNum ys.length l[k] with
        | true =>
          rw [findIdx_drop hq h hx]
          exact .inr ⟨by simp, by simp⟩
        | false =>
          refine .inl ⟨k + 1, ⟨by omega, fun j hj hjk => ?_⟩, by omega, trivial, by simp⟩
          rcases Nat.lt_or_ge j k with h' | h'
          · exact hq j hj h'
          · have : j = k := by omega
            subst this; exact hx
      · have : k = l.length := by omega
        subst this
        have : l.findIdx? (noNum ys.length) = none := by
          rw [List.findIdx?_eq_none_iff]
          intro x hx
          obtain ⟨j, hj, rfl⟩ := List.getElem_of_mem hx
          exact hq j hj hj
        rw [this]
        refine .inr ⟨by simp, ?_⟩
        simp [ld_br, ld_leaf]) 0 ⟨Nat.zero_le _, fun j hj h => by omega⟩
  rw [ints_length]
  unfold firstAt
  cases h : l.findIdx? (noNum ys.length) with
  | none =>
    simp only [h] at hloop
    exact fd_lp (p := p51c) hct (by kernel_rfl) hloop (by rw [t51c_0x1]; rfl)
  | some i =>
    simp only [h] at hloop
    exact fd_lp (p := p51c) hct (by kernel_rfl) hloop (by rw [t51c_0x0]; rfl)
theorem f51b (l : List Int) (nl : Option Bool) (t : Bool) (nl2 : Option Bool) (t2 : Bool) (r : List Cm) (c : C) (st : Int) (hr : r.length ≤ 500) (hn : ∀ n ∈ l, noNum r.length n = false) (hl : l.length ≤ 4294967296) :
    call E 51 [.c (.sl 1 nl t (ints l)), .fn 50 [.ptr 0 0 0 0, .ptr 1 0 0 0]] [.box [.c (.sl 2 nl2 t2 (repo r))], .box [.c c, V.i st]] = some ([V.i (firstAt (lateFor r st) l)], [.box [.c (.sl 2 nl2 t2 (repo r))], .box [.c c, V.i st]]) := by
  have hct : CT.ok E (ctOf [(50, s50)]) := ctOf_cons s50_ok ctOf_nil
  refine call_of (E := E) (sh := sh) (ct := ctOf [(50, s50)]) (na := 2) (m := 2) hct rfl rfl rfl rfl rfl rfl ?_
  rw [t51b]
  have hloop := loop_of (p := p51b) hct (b := b51) (fun k : Nat => ([(0, .c (.sl 1 nl t (ints l))), (1, .fn 50 [.ptr 0 0 0 0, .ptr 1 0 0 0]), (7, V.i l.length), (8, V.i k)], [.box [.c (.sl 2 nl2 t2 (repo r))], .box [.c c, V.i st]]))
    (fun k => k ≤ l.length ∧ ∀ j (hj : j < l.length), j < k → lateFor r st l[j] = false) (fun k => l.length - k)
    (fun _ => match l.findIdx? (lateFor r st) with
      | some i => (.ret, [(4, V.i i)], [.box [.c (.sl 2 nl2 t2 (repo r))], .box [.c c, V.i st]])
      | none => (.exit 0, [(0, .c (.sl 1 nl t (ints l))), (1, .fn 50 [.ptr 0 0 0 0, .ptr 1 0 0 0]), (7, V.i l.length), (8, V.i l.length), (9, V.b false)], [.box [.c (.sl 2 nl2 t2 (repo r))], .box [.c c, V.i st]]))
    (by
      rintro k ⟨hk, hq⟩
      simp only [t51b_0]
      rcases Nat.lt_or_ge k l.length with h | h
      · have hget : l.getD k 0 = l[k] := by rw [List.getD_eq_getElem?_getD, List.getElem?_eq_getElem h]; rfl
        have hw := wrap_same (n := (k : Int) + 1) (by omega) (by omega)
        simp only [ld_br, ld_chk, ints_length, Int.toNat_natCast, ints_getD h, ei_ok, ei_i, hget, hw, ld_leaf, h, isRepo_repo, toRepo_repo, repo_length, hn _ (List.getElem_mem h), hr, Bool.not_false, Int.ofNat_lt, decide_true, Int.natCast_nonneg, if_true]
        cases hx : lateFor r st l[k] with
        | true =>
          rw [findIdx_drop hq h hx]
          exact .inr ⟨by simp, by simp⟩
        | false =>
          refine .inl ⟨k + 1, ⟨by omega, fun j hj hjk => ?_⟩, by omega, trivial, by simp⟩
          rcases Nat.lt_or_ge j k with h' | h'
          · exact hq j hj h'
          · have : j = k := by omega
            subst this; exact hx
      · have : k = l.length := by omega
        subst this
        have : l.findIdx? (lateFor r st) = none := by
          rw [List.findIdx?_eq_none_iff]
          intro x hx
          obtain ⟨j, hj, rfl⟩ := List.getElem_of_mem hx
          exact hq j hj hj
        rw [this]
        refine .inr ⟨by simp, ?_⟩
        simp [ld_br, ld_leaf]) 0 ⟨Nat.zero_le _, fun j hj h => by omega⟩
  rw [ints_length]
  unfold firstAt
  cases h : l.findIdx? (lateFor r st) with
  | none =>
    simp only [h] at hloop
    exact fd_lp (p := p51b) hct (by kernel_rfl) hloop (by rw [t51b_0x1]; rfl)
  | some i =>
    simp only [h] at hloop
    exact fd_lp (p := p51b) hct (by kernel_rfl) hloop (by rw [t51b_0x0]; rfl)
end Go.Proofs.Ytkdinelcmanfcaa
