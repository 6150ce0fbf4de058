/-
  Radix trees, plain: how deep; where a kid stands.
-/
import Derived.Test.YtbilmkcdhodenaaDoorRD
import Derived.Test.YtbilmkcdhodenaaDoorBT1
set_option linter.all false
set_option linter.unusedSimpArgs false
set_option linter.unusedVariables false
section
namespace Go.Proofs.YtbilmkcdhodenaaDoor
open Go Go.Ev

mutual
def depT : Nd → Nat
  | .node _ _ kids => depL kids + 1
def depL : List Nd → Nat
  | [] => 0
  | t :: r => max (depT t) (depL r)
end
theorem depT_eq (t : Nd) : depT t = depL t.kids + 1 := by cases t; rw [depT]; rfl
theorem depL_mem : ∀ {l : List Nd} {t : Nd}, t ∈ l → depT t ≤ depL l
  | x :: r, t, h => by
    rw [depL]
    rcases List.mem_cons.1 h with rfl | h
    · exact Nat.le_max_left _ _
    · exact Nat.le_trans (depL_mem h) (Nat.le_max_right _ _)
theorem depL_kid {l : List Nd} {t : Nd} (h : t ∈ l) : depL t.kids < depL l := by
  have := depL_mem h
  rw [depT_eq] at this
  omega

/-! ## where a kid stands, by halves -/
def bsK (l : List Nd) (b : Int) : Nat → Nat → Nat → Nat
  | 0, lo, _ => lo
  | n + 1, lo, hi => if lo < hi then (if hdB (l.getD ((lo + hi) / 2) default).lab < b then bsK l b n ((lo + hi) / 2 + 1) hi else bsK l b n lo ((lo + hi) / 2)) else lo
def posK (l : List Nd) (b : Int) : Nat := bsK l b l.length 0 l.length
def hitK (l : List Nd) (b : Int) : Bool := decide (posK l b < l.length) && decide (hdB (l.getD (posK l b) default).lab = b)
theorem bsK_end (l : List Nd) (b : Int) (n : Nat) {lo hi : Nat} (h : ¬ lo < hi) : bsK l b n lo hi = lo := by
  cases n with
  | zero => rfl
  | succ n => simp only [bsK, if_neg h]
theorem bsK_fuel (l : List Nd) (b : Int) : ∀ (n m lo hi : Nat), hi - lo ≤ n → hi - lo ≤ m → bsK l b n lo hi = bsK l b m lo hi
  | 0, m, lo, hi, h1, h2 => by rw [bsK_end l b 0 (by omega), bsK_end l b m (by omega)]
  | n + 1, 0, lo, hi, h1, h2 => by rw [bsK_end l b 0 (by omega), bsK_end l b (n + 1) (by omega)]
  | n + 1, m + 1, lo, hi, h1, h2 => by
    simp only [bsK]
    split
    · split
      · exact bsK_fuel l b n m _ _ (by omega) (by omega)
      · exact bsK_fuel l b n m _ _ (by omega) (by omega)
    · rfl
theorem bsK_le (l : List Nd) (b : Int) : ∀ (n lo hi : Nat), lo ≤ hi → hi ≤ l.length → lo ≤ bsK l b n lo hi ∧ bsK l b n lo hi ≤ hi
  | 0, lo, hi, h, _ => ⟨Nat.le_refl _, h⟩
  | n + 1, lo, hi, h, h2 => by
    simp only [bsK]
    split
    · split
      · have := bsK_le l b n ((lo + hi) / 2 + 1) hi (by omega) h2; omega
      · have := bsK_le l b n lo ((lo + hi) / 2) (by omega) (by omega); omega
    · omega
theorem posK_le (l : List Nd) (b : Int) : posK l b ≤ l.length := (bsK_le l b _ 0 _ (Nat.zero_le _) (Nat.le_refl _)).2
/-- Kids whose first bytes rise. -/
def riseK (l : List Nd) : Prop := ∀ i j, i < j → j < l.length → hdB (l.getD i default).lab < hdB (l.getD j default).lab
theorem okL_rise : ∀ {l : List Nd} {n : Nat} {f : Int}, okL l n f = true → riseK l ∧ ∀ t ∈ l, f < hdB t.lab
  | [], n, f, _ => ⟨fun i j _ h => by simp at h, by simp⟩
  | t :: r, n, f, h => by
    simp only [okL, Bool.and_eq_true, decide_eq_true_eq] at h
    obtain ⟨k1, k2⟩ := okL_rise h.2
    refine ⟨fun i j hij hj => ?_, fun u hu => ?_⟩
    · cases j with
      | zero => omega
      | succ j =>
        have hj' : j < r.length := by simpa using hj
        cases i with
        | zero =>
          have := k2 (r.getD j default) (by rw [List.getD_eq_getElem?_getD, List.getElem?_eq_getElem hj']; exact List.getElem_mem hj')
          simpa using this
        | succ i => have := k1 i j (by omega) hj'; simpa using this
    · rcases List.mem_cons.1 hu with rfl | hu
      · exact h.1.2
      · have := k2 u hu; omega
theorem bsK_find (l : List Nd) (b : Int) (hs : riseK l) : ∀ (n lo hi : Nat), lo ≤ hi → hi ≤ l.length → hi - lo ≤ n → (∀ i, i < lo → hdB (l.getD i default).lab < b) → (∀ i, hi ≤ i → i < l.length → b ≤ hdB (l.getD i default).lab) →
    (∀ i, i < bsK l b n lo hi → hdB (l.getD i default).lab < b) ∧ (∀ i, bsK l b n lo hi ≤ i → i < l.length → b ≤ hdB (l.getD i default).lab)
  | 0, lo, hi, h, _, h3, h4, h5 => by
    obtain rfl : lo = hi := by omega
    exact ⟨h4, h5⟩
  | n + 1, lo, hi, h, h2, h3, h4, h5 => by
    simp only [bsK]
    split
    · rename_i hlt
      split
      · rename_i hb
        refine bsK_find l b hs n ((lo + hi) / 2 + 1) hi (by omega) h2 (by omega) (fun i hi' => ?_) h5
        rcases Nat.lt_or_ge i ((lo + hi) / 2) with hlt2 | hge
        · have := hs i _ hlt2 (by omega); omega
        · obtain rfl : i = (lo + hi) / 2 := by omega
          exact hb
      · rename_i hb
        refine bsK_find l b hs n lo ((lo + hi) / 2) (by omega) (by omega) (by omega) h4 (fun i h6 h7 => ?_)
        rcases Nat.lt_or_ge ((lo + hi) / 2) i with hlt2 | hge
        · have := hs _ i hlt2 h7; omega
        · obtain rfl : i = (lo + hi) / 2 := by omega
          omega
    · obtain rfl : lo = hi := by omega
      exact ⟨h4, h5⟩
theorem posK_find {l : List Nd} (hs : riseK l) (b : Int) : (∀ i, i < posK l b → hdB (l.getD i default).lab < b) ∧ (∀ i, posK l b ≤ i → i < l.length → b ≤ hdB (l.getD i default).lab) :=
  bsK_find l b hs _ 0 _ (Nat.zero_le _) (Nat.le_refl _) (by omega) (fun i h => by omega) (fun i h h2 => by omega)
theorem getD_at' {l : List Nd} {i : Nat} (h : i < l.length) : l.getD i default = l[i] := by simp [List.getD_eq_getElem?_getD, h]
/-- A kid by its first byte: the one that halving finds. -/
theorem findK_pos {l : List Nd} (hs : riseK l) (hne : ∀ t ∈ l, t.lab ≠ []) (b : UInt8) : findK b l = if h : posK l (b.toNat : Int) < l.length ∧ hdB (l.getD (posK l (b.toNat : Int)) default).lab = (b.toNat : Int) then some (l[posK l (b.toNat : Int)]'h.1) else none := by
  obtain ⟨p1, p2⟩ := posK_find hs (b.toNat : Int)
  have hh : ∀ t ∈ l, (t.lab.head? = some b ↔ hdB t.lab = (b.toNat : Int)) := fun t ht => by
    obtain ⟨c, s, e⟩ := head_of_ne (hne t ht)
    rw [e]
    simp only [List.head?_cons, Option.some.injEq, hdB, List.headD_cons]
    constructor
    · rintro rfl; rfl
    · intro h; exact UInt8.toNat_inj.1 (by omega)
  split
  · rename_i h
    rw [getD_at' h.1] at h
    refine List.find?_eq_some_iff_getElem.2 ⟨by simpa using (hh _ (List.getElem_mem h.1)).2 h.2, _, h.1, rfl, fun j hj => ?_⟩
    have := p1 j hj
    rw [getD_at' (by omega)] at this
    have h2 := not_congr (hh _ (List.getElem_mem (show j < l.length by omega)))
    simp only [Bool.not_eq_true', decide_eq_false_iff_not]
    rw [h2]; omega
  · rename_i h
    refine List.find?_eq_none.2 fun t ht => ?_
    simp only [decide_eq_true_eq]
    rw [hh t ht]
    intro e
    obtain ⟨i, hi, rfl⟩ := List.mem_iff_getElem.1 ht
    rcases Nat.lt_or_ge i (posK l (b.toNat : Int)) with h1 | h1
    · have := p1 i h1
      rw [getD_at' hi] at this; omega
    · refine h ⟨by omega, ?_⟩
      rcases Nat.lt_or_ge (posK l (b.toNat : Int)) i with h2 | h2
      · have a1 := p2 (posK l (b.toNat : Int)) (Nat.le_refl _) (by omega)
        have a2 := hs _ i h2 hi
        rw [getD_at' hi] at a2; omega
      · obtain rfl : i = posK l (b.toNat : Int) := by omega
        rw [getD_at' hi]; exact e
theorem hdB_lt (l : List UInt8) : 0 ≤ hdB l ∧ hdB l ≤ 255 := by
  unfold hdB
  have := (l.headD 0).toNat_lt
  omega
theorem okL_len : ∀ {l : List Nd} {n : Nat} {f : Int}, okL l n f = true → f ≤ 255 → (l.length : Int) ≤ 255 - f
  | [], n, f, _, hf => by simp; omega
  | t :: r, n, f, h, hf => by
    simp only [okL, Bool.and_eq_true, decide_eq_true_eq] at h
    have h1 := hdB_lt t.lab
    have h2 := okL_len h.2 h1.2
    rw [List.length_cons]; omega
end Go.Proofs.YtbilmkcdhodenaaDoor

end

/-
  Prefixes of strings: trees, written by a program.
-/
section
namespace Go.Proofs.YtbilmkcdhodenaaDoor
open Go Go.Ev
set_option pp.deepTerms true
set_option pp.maxSteps 1000000
set_option pp.funBinderTypes true
set_option pp.coercions.types true
def begins (s p : List UInt8) : Bool := decide (p.length ≤ s.length) && decide (s.take p.length = p)
def s137 : CSpec := fun a h => match a, h with
  | [.c (.str p), .c (.str q)], [] => some ([], [V.b (begins p q)], [])
  | _, _ => none
noncomputable abbrev p137 : Par := par E sh (ctOf []) 137 2 0
theorem t137 (p : List UInt8) (q : List UInt8) : p137.ft ([V.c (C.str p), V.c (C.str q)]) ([]) = (Tr.br (decide ((↑q.length : Int) ≤ (↑p.length : Int))) (Tr.chk true (Tr.chk true (Tr.chk (decide ((↑q.length : Int).toNat ≤ p.length)) (Tr.leaf (R.out [V.c (C.bool (List.take (↑q.length : Int).toNat p == q))] []))))) (Tr.leaf (R.out [V.c (C.bool false)] []))) := by kernel_rfl
noncomputable abbrev p94 : Par := par E sh (ctOf [(137, s137)]) 94 2 0
theorem t94 (p : List UInt8) (q : List UInt8) : p94.ft ([V.c (C.str p), V.c (C.str q)]) ([]) = (Tr.leaf (R.out [V.c (C.bool (begins p q))] [])) := by kernel_rfl
end Go.Proofs.YtbilmkcdhodenaaDoor

end

/-
  Prefixes of strings.
-/
section
namespace Go.Proofs.YtbilmkcdhodenaaDoor
open Go Go.Ev

theorem rows_ex {xs : List (List C)} (h : isRows xs = true) : ∃ l, xs = rows l := ⟨_, rows_of h⟩
theorem beqL (p q : List UInt8) : (p == q) = decide (p = q) := by rw [Bool.eq_iff_iff]; simp
theorem begins_iff {s p : List UInt8} : begins s p = true ↔ ∃ t, s = p ++ t := by
  simp only [begins, Bool.and_eq_true, decide_eq_true_eq]
  constructor
  · rintro ⟨h1, h2⟩
    exact ⟨s.drop p.length, by conv => lhs; rw [← List.take_append_drop p.length s, h2]⟩
  · rintro ⟨t, rfl⟩
    simp
theorem f137 (p q : List UInt8) : call E 137 [.c (.str p), .c (.str q)] [] = some ([V.b (begins p q)], []) := by
  refine call_of (E := E) (sh := sh) (ct := ctOf []) (na := 2) (m := 0) ctOf_nil rfl rfl rfl rfl rfl rfl ?_
  rw [t137]; simp only [ld_br, ld_chk', ld_leaf, fd_br, fd_chk', fd_leaf, decide_true, decide_eq_true_eq, if_true, Int.toNat_natCast, Int.natCast_nonneg, Int.ofNat_lt, Int.ofNat_le, Bool.false_eq_true, if_false, bne_iff_ne, beq_iff_eq, ne_eq, not_true_eq_false, not_false_eq_true, Bool.not_eq_true', decide_eq_false_iff_not, reduceCtorEq, rows_length, pcs_length, er_ok, er_ok', ep_ok, ep_ok', dr_er, dp_ep, isRows_rows, isPcs_pcs, toRows_rows, toPcs_pcs, rows_take, rows_drop, pcs_take, pcs_drop, rows_append, pcs_append, ints_length, isInts_ints, toInts_ints, ei_i, ei_ok, mk_headD, ints_take, ints_drop, ints_append, ints_snoc, ints_snoc', List.take_length, Nat.zero_add, Nat.le_refl, er_a, er_b, er_k, er_n, er_s, er_v, ep_a, ep_b, ep_hk, ep_hn, ep_hs, ep_wk, ep_wn, ep_ws, begins]
  by_cases h : q.length ≤ p.length
  · simp [h, beqL]
  · simp [h]
theorem s137_ok : CSpecOk E 137 s137 := by
  intro a h cs vals h' he hc
  unfold s137 at he
  split at he <;> simp only [Option.some.injEq, Prod.mk.injEq, reduceCtorEq] at he
  obtain ⟨rfl, rfl, rfl⟩ := he
  exact f137 _ _
theorem s137_ok' : CSpecOk E 94 s137 := by
  intro a h cs vals h' he hc
  unfold s137 at he
  split at he <;> simp only [Option.some.injEq, Prod.mk.injEq, reduceCtorEq] at he
  obtain ⟨rfl, rfl, rfl⟩ := he
  refine call_of (E := E) (sh := sh) (ct := ctOf [(137, s137)]) (na := 2) (m := 0) (ctOf_cons s137_ok ctOf_nil) rfl rfl rfl rfl rfl rfl ?_; rw [t94]; rfl
end Go.Proofs.YtbilmkcdhodenaaDoor

end

/-
  Radix trees: trees, written by a program: place, Get's parts, below.
-/
section
namespace Go.Proofs.YtbilmkcdhodenaaDoor
open Go Go.Ev
set_option pp.deepTerms true
set_option pp.maxSteps 1000000
set_option pp.funBinderTypes true
set_option pp.coercions.types true
noncomputable abbrev p176 : Par := par E sh (ctOf []) 176 2 0
theorem t176 (s : List UInt8) (xs : List (List C)) (ys : List (List C)) (b : Int) : p176.ft ([V.agg [V.c (C.str s), V.c (C.sl 5 none false xs), V.c (C.sl 3 none false ys)], V.c (C.int IntKind.u8 b)]) ([]) = (Tr.chk true (Tr.chk (decide (Int.toNat 0 < s.length)) (Tr.leaf (R.out [V.c (C.int IntKind.i64 (IntKind.i64.wrap (IntKind.i64.wrap (↑(s.getD (Int.toNat 0) 0).toNat : Int) - IntKind.i64.wrap b)))] [])))) := by kernel_rfl
def s176 : CSpec := fun a h => match a, h with
  | [.agg [.c (.str s), .c (.sl 5 none false xs), .c (.sl 3 none false ys)], .c (.int .u8 b)], [] => some ([decide (s ≠ []), decide (0 ≤ b), decide (b ≤ 255)], [V.i (hdB s - b)], [])
  | _, _ => none
noncomputable abbrev p175 : Par := par E sh (ctOf [(176, s176)]) 175 3 0
abbrev s175_0 (nl : Option Bool) (tt : Bool) (xs : List (List C)) (b : Int) (i8 : Int) (i9 : Int) (i10 : Int) : Fr × Hp := ([(0, V.c (C.sl 3 nl tt xs)), (1, V.c (C.int IntKind.u8 b)), (2, V.fn 176 []), (8, V.c (C.int IntKind.i64 i8)), (9, V.c (C.int IntKind.i64 i9)), (10, V.c (C.int IntKind.i64 i10))], [])
noncomputable abbrev b175_0 : Code := loopAt (codeOf p175.E p175.g) 0
abbrev x175_0x0 (nl : Option Bool) (tt : Bool) (xs : List (List C)) (b : Int) (i8 : Int) (i9 : Int) (i10 : Int) : Ex × Fr × Hp := (Ex.exit 0, [(0, V.c (C.sl 3 nl tt xs)), (1, V.c (C.int IntKind.u8 b)), (2, V.fn 176 []), (8, V.c (C.int IntKind.i64 i8)), (9, V.c (C.int IntKind.i64 i9)), (10, V.c (C.int IntKind.i64 i10)), (17, V.c (C.bool false))], [])
theorem t175_0 (nl : Option Bool) (tt : Bool) (xs : List (List C)) (b : Int) (i8 : Int) (i9 : Int) (i10 : Int) : p175.lts b175_0 (s175_0 nl tt xs b i8 i9 i10) = (Tr.br (decide (i9 < i10)) (Tr.chk (decide (0 ≤ IntKind.i64.wrap (IntKind.u64.wrap (IntKind.i64.wrap (i9 + i10)) / 2 ^ min (Int.toNat 1) IntKind.u64.bits))) (Tr.chk true (Tr.chk (decide ((IntKind.i64.wrap (IntKind.u64.wrap (IntKind.i64.wrap (i9 + i10)) / 2 ^ min (Int.toNat 1) IntKind.u64.bits)).toNat < xs.length)) (Tr.chk (shOk [Sk.str, Sk.sl 5, Sk.sl 3] (xs.getD (IntKind.i64.wrap (IntKind.u64.wrap (IntKind.i64.wrap (i9 + i10)) / 2 ^ min (Int.toNat 1) IntKind.u64.bits)).toNat [])) (Tr.chk (decide (((xs.getD (IntKind.i64.wrap (IntKind.u64.wrap (IntKind.i64.wrap (i9 + i10)) / 2 ^ min (Int.toNat 1) IntKind.u64.bits)).toNat []).headD C.pnil).st ≠ [])) (Tr.chk (decide (0 ≤ b)) (Tr.chk (decide (b ≤ 255)) (Tr.br (decide (hdB ((xs.getD (IntKind.i64.wrap (IntKind.u64.wrap (IntKind.i64.wrap (i9 + i10)) / 2 ^ min (Int.toNat 1) IntKind.u64.bits)).toNat []).headD C.pnil).st - b < 0)) (Tr.leaf (R.s (s175_0 nl tt xs b i8 (IntKind.i64.wrap (IntKind.i64.wrap (IntKind.u64.wrap (IntKind.i64.wrap (i9 + i10)) / 2 ^ min (Int.toNat 1) IntKind.u64.bits) + 1)) i10))) (Tr.leaf (R.s (s175_0 nl tt xs b i8 i9 (IntKind.i64.wrap (IntKind.u64.wrap (IntKind.i64.wrap (i9 + i10)) / 2 ^ min (Int.toNat 1) IntKind.u64.bits))))))))))))) (Tr.leaf (R.x (x175_0x0 nl tt xs b i8 i9 i10)))) := by kernel_rfl
theorem k175_0x0 (nl : Option Bool) (tt : Bool) (xs : List (List C)) (b : Int) (i8 : Int) (i9 : Int) (i10 : Int) : p175.fkx 0 (x175_0x0 nl tt xs b i8 i9 i10) = (Tr.br (decide (i9 < i8)) (Tr.chk (decide (0 ≤ i9)) (Tr.chk true (Tr.chk (decide (i9.toNat < xs.length)) (Tr.chk (shOk [Sk.str, Sk.sl 5, Sk.sl 3] (xs.getD i9.toNat [])) (Tr.chk (decide (((xs.getD i9.toNat []).headD C.pnil).st ≠ [])) (Tr.chk (decide (0 ≤ b)) (Tr.chk (decide (b ≤ 255)) (Tr.leaf (R.out [V.c (C.int IntKind.i64 i9), V.c (C.bool (hdB ((xs.getD i9.toNat []).headD C.pnil).st - b == 0))] []))))))))) (Tr.leaf (R.out [V.c (C.int IntKind.i64 i9), V.c (C.bool false)] []))) := by kernel_rfl
theorem t175 (nl : Option Bool) (tt : Bool) (xs : List (List C)) (b : Int) : p175.ft ([V.c (C.sl 3 nl tt xs), V.c (C.int IntKind.u8 b), V.fn 176 []]) ([]) = (Tr.ls 0 (s175_0 nl tt xs b ((↑xs.length : Int)) (0) ((↑xs.length : Int)))) := by kernel_rfl
def labsOk (l : List Nd) : Bool := l.all fun t => decide (t.lab ≠ [])
def s175 : CSpec := fun a h => match a, h with
  | [.c (.sl 3 nl tt xs), .c (.int .u8 b), .fn 176 []], [] => some ([isL xs, labsOk (decL xs), decide (0 ≤ b), decide (b ≤ 255), decide (xs.length < 4294967296)], [V.i (posK (decL xs) b), V.b (hitK (decL xs) b)], [])
  | _, _ => none
noncomputable abbrev p139 : Par := par E sh (ctOf [(175, s175)]) 139 2 0
theorem t139 (nl : Option Bool) (tt : Bool) (xs : List (List C)) (b : Int) : p139.ft ([V.c (C.sl 3 nl tt xs), V.c (C.int IntKind.u8 b)]) ([]) = (Tr.chk (isL xs) (Tr.chk (labsOk (decL xs)) (Tr.chk (decide (0 ≤ b)) (Tr.chk (decide (b ≤ 255)) (Tr.chk (decide (xs.length < 4294967296)) (Tr.leaf (R.out [V.c (C.int IntKind.i64 (↑(posK (decL xs) b) : Int)), V.c (C.bool (hitK (decL xs) b))] []))))))) := by kernel_rfl
noncomputable abbrev p140 : Par := par E sh (ctOf []) 140 1 0
theorem t140 (tt : Bool) (xs : List (List C)) : p140.ft ([V.c (C.sl 5 (some false) tt xs)]) ([]) = (Tr.br false (Tr.leaf (R.out [V.c (C.sl 5 none false [])] [])) (Tr.chk true (Tr.chk true (Tr.chk (decide (0 + xs.length < 4294967296)) (Tr.chk true (Tr.leaf (R.out [V.c (C.sl 5 none false (List.take (0 + xs.length) (List.take 0 [] ++ xs)))] []))))))) := by kernel_rfl
theorem t140n (tt : Bool) : p140.ft ([V.c (C.sl 5 (some true) tt [])]) ([]) = (Tr.br true (Tr.leaf (R.out [V.c (C.sl 5 none false [])] [])) (Tr.chk true (Tr.chk true (Tr.chk true (Tr.chk true (Tr.leaf (R.out [V.c (C.sl 5 none false [])] []))))))) := by kernel_rfl
theorem t140c (tt : Bool) (x : List C) (xs : List (List C)) : p140.ft ([V.c (C.sl 5 none tt (x :: xs))]) ([]) = (Tr.br false (Tr.leaf (R.out [V.c (C.sl 5 none false [])] [])) (Tr.chk true (Tr.chk true (Tr.chk (decide (0 + (x :: xs).length < 4294967296)) (Tr.chk true (Tr.leaf (R.out [V.c (C.sl 5 none false (List.take (0 + (x :: xs).length) (List.take 0 [] ++ x :: xs)))] []))))))) := by kernel_rfl
variable (dd : Nat)
def s147 : CSpec := fun a h => match a, h with
  | [.c (.sl 3 nl tt xs), .c (.int .i64 n)], [] => some ([isL xs, decide (depL (decL xs) < dd), decide (0 ≤ n), decide (n < 1000000)], [V.b (okL (decL xs) n.toNat (-1))], [])
  | _, _ => none
noncomputable abbrev p147 : Par := par E sh (ctOf [(133, s133), (147, s147 dd)]) 147 2 0
abbrev s147_0 (nl : Option Bool) (tt : Bool) (xs : List (List C)) (n : Int) (i5 : Int) (i9 : Int) (i10 : Int) : Fr × Hp := ([(1, V.c (C.int IntKind.i64 n)), (5, V.c (C.int IntKind.i64 i5)), (8, V.c (C.sl 3 nl tt xs)), (9, V.c (C.int IntKind.i64 i9)), (10, V.c (C.int IntKind.i64 i10))], [])
noncomputable abbrev b147_0 : Code := loopAt (codeOf E (147)) 0
abbrev x147_0x0 (sh0 : List UInt8) (nlh0 : Option Bool) (xsh0 : List (List C)) (xsh0_1 : List (List C)) : Ex × Fr × Hp := (Ex.ret, [(4, V.c (C.bool false))], [O.box [V.c (C.str sh0), V.c (C.sl 5 nlh0 false xsh0), V.c (C.sl 3 nlh0 false xsh0_1)]])
abbrev x147_0x1 (nl : Option Bool) (tt : Bool) (xs : List (List C)) (n : Int) (i5 : Int) (i9 : Int) (i10 : Int) : Ex × Fr × Hp := (Ex.exit 0, [(1, V.c (C.int IntKind.i64 n)), (5, V.c (C.int IntKind.i64 i5)), (8, V.c (C.sl 3 nl tt xs)), (9, V.c (C.int IntKind.i64 i9)), (10, V.c (C.int IntKind.i64 i10)), (11, V.c (C.bool false))], [])
theorem t147_0 (nl : Option Bool) (tt : Bool) (xs : List (List C)) (n : Int) (i5 : Int) (i9 : Int) (i10 : Int) : (p147 dd).lts b147_0 (s147_0 nl tt xs n i5 i9 i10) = (Tr.br (decide (i10 < i9)) (Tr.chk (decide (0 ≤ i10)) (Tr.chk true (Tr.chk (decide (i10.toNat < xs.length)) (Tr.chk (shOk [Sk.str, Sk.sl 5, Sk.sl 3] (xs.getD i10.toNat [])) (Tr.br (((xs.getD i10.toNat []).headD C.pnil).st == []) (Tr.leaf (R.x (x147_0x0 (((xs.getD i10.toNat []).headD C.pnil).st) (none) (((xs.getD i10.toNat []).tail.headD C.pnil).xs) (((xs.getD i10.toNat []).tail.tail.headD C.pnil).xs)))) (Tr.br (decide (n < (↑((xs.getD i10.toNat []).headD C.pnil).st.length : Int))) (Tr.leaf (R.x (x147_0x0 (((xs.getD i10.toNat []).headD C.pnil).st) (none) (((xs.getD i10.toNat []).tail.headD C.pnil).xs) (((xs.getD i10.toNat []).tail.tail.headD C.pnil).xs)))) (Tr.chk true (Tr.chk (decide (Int.toNat 0 < ((xs.getD i10.toNat []).headD C.pnil).st.length)) (Tr.br (decide (IntKind.i64.wrap (↑(((xs.getD i10.toNat []).headD C.pnil).st.getD (Int.toNat 0) 0).toNat : Int) ≤ i5)) (Tr.leaf (R.x (x147_0x0 (((xs.getD i10.toNat []).headD C.pnil).st) (none) (((xs.getD i10.toNat []).tail.headD C.pnil).xs) (((xs.getD i10.toNat []).tail.tail.headD C.pnil).xs)))) (Tr.chk (isRows ((xs.getD i10.toNat []).tail.headD C.pnil).xs) (Tr.br (checkR (toRows ((xs.getD i10.toNat []).tail.headD C.pnil).xs) != 0) (Tr.leaf (R.x (x147_0x0 (((xs.getD i10.toNat []).headD C.pnil).st) (none) (((xs.getD i10.toNat []).tail.headD C.pnil).xs) (((xs.getD i10.toNat []).tail.tail.headD C.pnil).xs)))) (Tr.br ((↑((xs.getD i10.toNat []).tail.headD C.pnil).xs.length : Int) == 0) (Tr.br (decide ((↑((xs.getD i10.toNat []).tail.tail.headD C.pnil).xs.length : Int) < 2)) (Tr.leaf (R.x (x147_0x0 (((xs.getD i10.toNat []).headD C.pnil).st) (none) (((xs.getD i10.toNat []).tail.headD C.pnil).xs) (((xs.getD i10.toNat []).tail.tail.headD C.pnil).xs)))) (Tr.chk (isL ((xs.getD i10.toNat []).tail.tail.headD C.pnil).xs) (Tr.chk (decide (depL (decL ((xs.getD i10.toNat []).tail.tail.headD C.pnil).xs) < dd)) (Tr.chk (decide (0 ≤ IntKind.i64.wrap (n - (↑((xs.getD i10.toNat []).headD C.pnil).st.length : Int)))) (Tr.chk (decide (IntKind.i64.wrap (n - (↑((xs.getD i10.toNat []).headD C.pnil).st.length : Int)) < 1000000)) (Tr.br (!okL (decL ((xs.getD i10.toNat []).tail.tail.headD C.pnil).xs) (IntKind.i64.wrap (n - (↑((xs.getD i10.toNat []).headD C.pnil).st.length : Int))).toNat (-1)) (Tr.leaf (R.x (x147_0x0 (((xs.getD i10.toNat []).headD C.pnil).st) (none) (((xs.getD i10.toNat []).tail.headD C.pnil).xs) (((xs.getD i10.toNat []).tail.tail.headD C.pnil).xs)))) (Tr.chk true (Tr.chk (decide (Int.toNat 0 < ((xs.getD i10.toNat []).headD C.pnil).st.length)) (Tr.leaf (R.s (s147_0 nl tt xs n (IntKind.i64.wrap (↑(((xs.getD i10.toNat []).headD C.pnil).st.getD (Int.toNat 0) 0).toNat : Int)) i9 (IntKind.i64.wrap (i10 + 1))))))))))))) (Tr.chk (isL ((xs.getD i10.toNat []).tail.tail.headD C.pnil).xs) (Tr.chk (decide (depL (decL ((xs.getD i10.toNat []).tail.tail.headD C.pnil).xs) < dd)) (Tr.chk (decide (0 ≤ IntKind.i64.wrap (n - (↑((xs.getD i10.toNat []).headD C.pnil).st.length : Int)))) (Tr.chk (decide (IntKind.i64.wrap (n - (↑((xs.getD i10.toNat []).headD C.pnil).st.length : Int)) < 1000000)) (Tr.br (!okL (decL ((xs.getD i10.toNat []).tail.tail.headD C.pnil).xs) (IntKind.i64.wrap (n - (↑((xs.getD i10.toNat []).headD C.pnil).st.length : Int))).toNat (-1)) (Tr.leaf (R.x (x147_0x0 (((xs.getD i10.toNat []).headD C.pnil).st) (none) (((xs.getD i10.toNat []).tail.headD C.pnil).xs) (((xs.getD i10.toNat []).tail.tail.headD C.pnil).xs)))) (Tr.chk true (Tr.chk (decide (Int.toNat 0 < ((xs.getD i10.toNat []).headD C.pnil).st.length)) (Tr.leaf (R.s (s147_0 nl tt xs n (IntKind.i64.wrap (↑(((xs.getD i10.toNat []).headD C.pnil).st.getD (Int.toNat 0) 0).toNat : Int)) i9 (IntKind.i64.wrap (i10 + 1)))))))))))))))))))))))) (Tr.leaf (R.x (x147_0x1 nl tt xs n i5 i9 i10)))) := by kernel_rfl
theorem k147_0x0 (dd : Nat) (sh0 : List UInt8) (nlh0 : Option Bool) (xsh0 : List (List C)) (xsh0_1 : List (List C)) : (p147 dd).fkx 0 (x147_0x0 sh0 nlh0 xsh0 xsh0_1) = (Tr.leaf (R.out [V.c (C.bool false)] [])) := by kernel_rfl
theorem k147_0x1 (dd : Nat) (nl : Option Bool) (tt : Bool) (xs : List (List C)) (n : Int) (i5 : Int) (i9 : Int) (i10 : Int) : (p147 dd).fkx 0 (x147_0x1 nl tt xs n i5 i9 i10) = (Tr.leaf (R.out [V.c (C.bool true)] [])) := by kernel_rfl
theorem t147 (nl : Option Bool) (tt : Bool) (xs : List (List C)) (n : Int) : (p147 dd).ft ([V.c (C.sl 3 nl tt xs), V.i n]) ([]) = (Tr.ls 0 (s147_0 nl tt xs n (-1) ((↑xs.length : Int)) (0))) := by kernel_rfl
end Go.Proofs.YtbilmkcdhodenaaDoor

end

/-
  Radix trees: place, Clone, below.
-/
section
namespace Go.Proofs.YtbilmkcdhodenaaDoor
open Go Go.Ev

theorem nd_ok (t : Nd) : shOk [Sk.str, Sk.sl 5, Sk.sl 3] t.enc = true := by rw [Nd.enc_eq]; rfl
theorem nd_lab (t : Nd) (d : C) : ((t.enc).headD d).st = t.lab := by rw [Nd.enc_eq]; rfl
theorem nd_rows (t : Nd) (d : C) : ((t.enc).tail.headD d).xs = rows t.rows := by rw [Nd.enc_eq]; rfl
theorem nd_kids (t : Nd) (d : C) : ((t.enc).tail.tail.headD d).xs = encL t.kids := by rw [Nd.enc_eq]; rfl
theorem hd_getD (s : List UInt8) : (((s.getD (Int.toNat 0) 0).toNat : Nat) : Int) = hdB s := by cases s <;> rfl
theorem wrap_hd (s : List UInt8) : IntKind.wrap .i64 (((s.getD (Int.toNat 0) 0).toNat : Nat) : Int) = hdB s := by
  rw [hd_getD]
  have := hdB_lt s
  exact wrap_same (by omega) (by omega)
theorem hd_pos (s : List UInt8) : (Int.toNat 0 < s.length) = (s ≠ []) := by
  cases s <;> simp
theorem f176 (s : List UInt8) (xs ys : List (List C)) (b : Int) (hs : s ≠ []) (h0 : 0 ≤ b) (h1 : b ≤ 255) : call E 176 [.agg [.c (.str s), .c (.sl 5 none false xs), .c (.sl 3 none false ys)], .c (.int .u8 b)] [] = some ([V.i (hdB s - b)], []) := by
  refine call_of (E := E) (sh := sh) (ct := ctOf []) (na := 2) (m := 0) ctOf_nil rfl rfl rfl rfl rfl rfl ?_
  rw [t176]
  have h2 := hdB_lt s
  have w1 : IntKind.wrap .i64 b = b := wrap_same (by omega) (by omega)
  have w2 : IntKind.wrap .i64 (hdB s - b) = hdB s - b := wrap_same (by omega) (by omega)
  simp only [nd_ok, nd_lab, nd_rows, nd_kids, encL_length, isL_enc, decL_enc, wrap_hd, hd_pos, ld_br, ld_chk', ld_leaf, fd_br, fd_chk', fd_leaf, decide_true, decide_eq_true_eq, if_true, Int.toNat_natCast, Int.natCast_nonneg, Int.ofNat_lt, Int.ofNat_le, Bool.false_eq_true, if_false, bne_iff_ne, beq_iff_eq, ne_eq, not_true_eq_false, not_false_eq_true, Bool.not_eq_true', decide_eq_false_iff_not, reduceCtorEq, rows_length, pcs_length, er_ok, er_ok', ep_ok, ep_ok', dr_er, dp_ep, isRows_rows, isPcs_pcs, toRows_rows, toPcs_pcs, rows_take, rows_drop, pcs_take, pcs_drop, rows_append, pcs_append, ints_length, isInts_ints, toInts_ints, ei_i, ei_ok, mk_headD, ints_take, ints_drop, ints_append, ints_snoc, ints_snoc', List.take_length, Nat.zero_add, Nat.le_refl, er_a, er_b, er_k, er_n, er_s, er_v, ep_a, ep_b, ep_hk, ep_hn, ep_hs, ep_wk, ep_wn, ep_ws, w1, w2, hs]
theorem s176_ok : CSpecOk E 176 s176 := by
  intro a h cs vals h' he hc
  unfold s176 at he
  split at he <;> simp only [Option.some.injEq, Prod.mk.injEq, reduceCtorEq] at he
  rename_i s xs ys b
  obtain ⟨rfl, rfl, rfl⟩ := he
  simp only [allT, Bool.and_true, Bool.and_eq_true, decide_eq_true_eq] at hc
  obtain ⟨h1, h2, h3⟩ := hc
  exact f176 s xs ys b h1 h2 h3
theorem labs_mem {l : List Nd} (h : labsOk l = true) {k : Nat} (hk : k < l.length) : l[k].lab ≠ [] := by
  have := List.all_eq_true.1 h l[k] (List.getElem_mem hk)
  simpa using this
theorem f175 (l : List Nd) (nl : Option Bool) (tt : Bool) (b : Int) (hl : labsOk l = true) (h0 : 0 ≤ b) (h1 : b ≤ 255) (hlen : l.length < 4294967296) : call E 175 [.c (.sl 3 nl tt (encL l)), .c (.int .u8 b), .fn 176 []] [] = some ([V.i (posK l b), V.b (hitK l b)], []) := by
  have hct : (ctOf [(176, s176)]).ok E := ctOf_cons s176_ok ctOf_nil
  refine call_of (E := E) (sh := sh) (ct := ctOf [(176, s176)]) (na := 3) (m := 0) hct rfl rfl rfl rfl rfl rfl ?_
  rw [t175, encL_length]
  refine fd_post hct (by kernel_rfl) rfl (loops_post hct (b := b175_0) (ι := Nat × Nat) (fun i => s175_0 nl tt (encL l) b l.length i.1 i.2) (fun i => i.1 ≤ i.2 ∧ i.2 ≤ l.length ∧ bsK l b (i.2 - i.1) i.1 i.2 = posK l b) (fun i => i.2 - i.1) _ ?_ (0, l.length) ⟨Nat.zero_le _, Nat.le_refl _, rfl⟩)
  rintro ⟨lo, hi⟩ ⟨g1, g2, g3⟩
  dsimp only at g1 g2 g3 ⊢
  rw [t175_0]
  by_cases hlt : lo < hi
  · have hm : (lo + hi) / 2 < l.length := by omega
    left
    rw [half_wrap (by omega)]
    have hne := labs_mem hl hm
    simp only [nd_ok, nd_lab, nd_rows, nd_kids, encL_length, isL_enc, decL_enc, wrap_hd, hd_pos, ld_br, ld_chk', ld_leaf, fd_br, fd_chk', fd_leaf, decide_true, decide_eq_true_eq, if_true, Int.toNat_natCast, Int.natCast_nonneg, Int.ofNat_lt, Int.ofNat_le, Bool.false_eq_true, if_false, bne_iff_ne, beq_iff_eq, ne_eq, not_true_eq_false, not_false_eq_true, Bool.not_eq_true', decide_eq_false_iff_not, reduceCtorEq, rows_length, pcs_length, er_ok, er_ok', ep_ok, ep_ok', dr_er, dp_ep, isRows_rows, isPcs_pcs, toRows_rows, toPcs_pcs, rows_take, rows_drop, pcs_take, pcs_drop, rows_append, pcs_append, ints_length, isInts_ints, toInts_ints, ei_i, ei_ok, mk_headD, ints_take, ints_drop, ints_append, ints_snoc, ints_snoc', List.take_length, Nat.zero_add, Nat.le_refl, er_a, er_b, er_k, er_n, er_s, er_v, ep_a, ep_b, ep_hk, ep_hn, ep_hs, ep_wk, ep_wn, ep_ws, Int.ofNat_lt, hlt, hm, encL_getD hm, hne, h0, h1]
    have e : hi - lo = (hi - lo - 1) + 1 := by omega
    rw [e, bsK, if_pos hlt, getD_at' hm] at g3
    by_cases hb : hdB l[(lo + hi) / 2].lab < b
    · rw [if_pos hb] at g3
      refine ⟨((lo + hi) / 2 + 1, hi), ⟨by dsimp only; omega, g2, ?_⟩, by dsimp only; omega, ?_⟩
      · rw [← g3]; exact bsK_fuel l b _ _ _ _ (by omega) (by omega)
      · rw [wrap_succ (by omega), if_pos (show hdB l[(lo + hi) / 2].lab - b < 0 by omega)]
    · rw [if_neg hb] at g3
      refine ⟨(lo, (lo + hi) / 2), ⟨by dsimp only; omega, by dsimp only; omega, ?_⟩, by dsimp only; omega, ?_⟩
      · rw [← g3]; exact bsK_fuel l b _ _ _ _ (by omega) (by omega)
      · rw [if_neg (show ¬ hdB l[(lo + hi) / 2].lab - b < 0 by omega)]
  · obtain rfl : lo = hi := by omega
    right
    rw [bsK_end l b _ (by omega)] at g3
    refine ⟨x175_0x0 nl tt (encL l) b l.length lo lo, by simp, ?_, by simp only [nd_ok, nd_lab, nd_rows, nd_kids, encL_length, isL_enc, decL_enc, wrap_hd, hd_pos, ld_br, ld_chk', ld_leaf, fd_br, fd_chk', fd_leaf, decide_true, decide_eq_true_eq, if_true, Int.toNat_natCast, Int.natCast_nonneg, Int.ofNat_lt, Int.ofNat_le, Bool.false_eq_true, if_false, bne_iff_ne, beq_iff_eq, ne_eq, not_true_eq_false, not_false_eq_true, Bool.not_eq_true', decide_eq_false_iff_not, reduceCtorEq, rows_length, pcs_length, er_ok, er_ok', ep_ok, ep_ok', dr_er, dp_ep, isRows_rows, isPcs_pcs, toRows_rows, toPcs_pcs, rows_take, rows_drop, pcs_take, pcs_drop, rows_append, pcs_append, ints_length, isInts_ints, toInts_ints, ei_i, ei_ok, mk_headD, ints_take, ints_drop, ints_append, ints_snoc, ints_snoc', List.take_length, Nat.zero_add, Nat.le_refl, er_a, er_b, er_k, er_n, er_s, er_v, ep_a, ep_b, ep_hk, ep_hn, ep_hs, ep_wk, ep_wn, ep_ws, Int.lt_irrefl]⟩
    rw [k175_0x0]
    simp only [nd_ok, nd_lab, nd_rows, nd_kids, encL_length, isL_enc, decL_enc, wrap_hd, hd_pos, ld_br, ld_chk', ld_leaf, fd_br, fd_chk', fd_leaf, decide_true, decide_eq_true_eq, if_true, Int.toNat_natCast, Int.natCast_nonneg, Int.ofNat_lt, Int.ofNat_le, Bool.false_eq_true, if_false, bne_iff_ne, beq_iff_eq, ne_eq, not_true_eq_false, not_false_eq_true, Bool.not_eq_true', decide_eq_false_iff_not, reduceCtorEq, rows_length, pcs_length, er_ok, er_ok', ep_ok, ep_ok', dr_er, dp_ep, isRows_rows, isPcs_pcs, toRows_rows, toPcs_pcs, rows_take, rows_drop, pcs_take, pcs_drop, rows_append, pcs_append, ints_length, isInts_ints, toInts_ints, ei_i, ei_ok, mk_headD, ints_take, ints_drop, ints_append, ints_snoc, ints_snoc', List.take_length, Nat.zero_add, Nat.le_refl, er_a, er_b, er_k, er_n, er_s, er_v, ep_a, ep_b, ep_hk, ep_hn, ep_hs, ep_wk, ep_wn, ep_ws, Int.ofNat_lt, g3, hitK]
    by_cases hr : posK l b < l.length
    · have hne := labs_mem hl hr
      have e : (hdB l[posK l b].lab - b == 0) = decide (hdB l[posK l b].lab = b) := by
        rw [Bool.eq_iff_iff]; simp; omega
      simp only [hr, if_true, encL_getD hr, nd_ok, nd_lab, nd_rows, nd_kids, encL_length, isL_enc, decL_enc, wrap_hd, hd_pos, ld_br, ld_chk', ld_leaf, fd_br, fd_chk', fd_leaf, decide_true, decide_eq_true_eq, if_true, Int.toNat_natCast, Int.natCast_nonneg, Int.ofNat_lt, Int.ofNat_le, Bool.false_eq_true, if_false, bne_iff_ne, beq_iff_eq, ne_eq, not_true_eq_false, not_false_eq_true, Bool.not_eq_true', decide_eq_false_iff_not, reduceCtorEq, rows_length, pcs_length, er_ok, er_ok', ep_ok, ep_ok', dr_er, dp_ep, isRows_rows, isPcs_pcs, toRows_rows, toPcs_pcs, rows_take, rows_drop, pcs_take, pcs_drop, rows_append, pcs_append, ints_length, isInts_ints, toInts_ints, ei_i, ei_ok, mk_headD, ints_take, ints_drop, ints_append, ints_snoc, ints_snoc', List.take_length, Nat.zero_add, Nat.le_refl, er_a, er_b, er_k, er_n, er_s, er_v, ep_a, ep_b, ep_hk, ep_hn, ep_hs, ep_wk, ep_wn, ep_ws, hne, h0, h1, e, getD_at' hr, Bool.true_and]
    · simp only [hr, if_false, decide_false, Bool.false_and]
theorem s175_ok : CSpecOk E 175 s175 := by
  intro a h cs vals h' he hc
  unfold s175 at he
  split at he <;> simp only [Option.some.injEq, Prod.mk.injEq, reduceCtorEq] at he
  rename_i nl tt xs b
  obtain ⟨rfl, rfl, rfl⟩ := he
  simp only [allT, Bool.and_true, Bool.and_eq_true, decide_eq_true_eq] at hc
  obtain ⟨h1, h2, h3, h4, h5⟩ := hc
  obtain ⟨l, rfl⟩ := isL_ex h1
  simp only [decL_enc, encL_length] at *
  exact f175 l nl tt b h2 h3 h4 h5
theorem f139 (l : List Nd) (nl : Option Bool) (tt : Bool) (b : Int) (hl : labsOk l = true) (h0 : 0 ≤ b) (h1 : b ≤ 255) (hlen : l.length < 4294967296) : call E 139 [.c (.sl 3 nl tt (encL l)), .c (.int .u8 b)] [] = some ([V.i (posK l b), V.b (hitK l b)], []) := by
  refine call_of (E := E) (sh := sh) (ct := ctOf [(175, s175)]) (na := 2) (m := 0) (ctOf_cons s175_ok ctOf_nil) rfl rfl rfl rfl rfl rfl ?_
  rw [t139]
  simp only [nd_ok, nd_lab, nd_rows, nd_kids, encL_length, isL_enc, decL_enc, wrap_hd, hd_pos, ld_br, ld_chk', ld_leaf, fd_br, fd_chk', fd_leaf, decide_true, decide_eq_true_eq, if_true, Int.toNat_natCast, Int.natCast_nonneg, Int.ofNat_lt, Int.ofNat_le, Bool.false_eq_true, if_false, bne_iff_ne, beq_iff_eq, ne_eq, not_true_eq_false, not_false_eq_true, Bool.not_eq_true', decide_eq_false_iff_not, reduceCtorEq, rows_length, pcs_length, er_ok, er_ok', ep_ok, ep_ok', dr_er, dp_ep, isRows_rows, isPcs_pcs, toRows_rows, toPcs_pcs, rows_take, rows_drop, pcs_take, pcs_drop, rows_append, pcs_append, ints_length, isInts_ints, toInts_ints, ei_i, ei_ok, mk_headD, ints_take, ints_drop, ints_append, ints_snoc, ints_snoc', List.take_length, Nat.zero_add, Nat.le_refl, er_a, er_b, er_k, er_n, er_s, er_v, ep_a, ep_b, ep_hk, ep_hn, ep_hs, ep_wk, ep_wn, ep_ws, hl, h0, h1, hlen]
def s140 : CSpec := fun a h => match a, h with
  | [.c (.sl 5 nl tt xs)], [] => some ([decide (xs.length < 4294967296), decide (nl ≠ some true ∨ xs = [])], [.c (.sl 5 none false xs)], [])
  | _, _ => none
theorem s140_ok : CSpecOk E 140 s140 := by
  intro a h cs vals h' he hc
  unfold s140 at he
  split at he <;> simp only [Option.some.injEq, Prod.mk.injEq, reduceCtorEq] at he
  rename_i nl tt xs
  obtain ⟨rfl, rfl, rfl⟩ := he
  simp only [allT, Bool.and_true, Bool.and_eq_true, decide_eq_true_eq] at hc
  obtain ⟨hc, hn⟩ := hc
  have some_false : ∀ tt, call E 140 [.c (.sl 5 (some false) tt xs)] [] = some ([.c (.sl 5 none false xs)], []) := fun tt => by
    refine call_of (E := E) (sh := sh) (ct := ctOf []) (na := 1) (m := 0) ctOf_nil rfl rfl rfl rfl rfl rfl ?_
    rw [t140]
    simp [fd_br, fd_chk', fd_leaf, hc]
  match nl, xs, hc, hn, some_false with
  | some false, xs, hc, hn, sf => exact sf tt
  | some true, xs, hc, hn, sf =>
    obtain rfl : xs = [] := by simpa using hn
    refine call_of (E := E) (sh := sh) (ct := ctOf []) (na := 1) (m := 0) ctOf_nil rfl rfl rfl rfl rfl rfl ?_
    rw [t140n]; rfl
  | none, [], hc, hn, sf =>
    refine call_split' (E := E) (a1 := [.c (.sl 5 (some true) true [])]) (a2 := [.c (.sl 5 (some false) tt [])]) rfl rfl rfl rfl rfl ?_ (sf tt) rfl
    refine call_of (E := E) (sh := sh) (ct := ctOf []) (na := 1) (m := 0) ctOf_nil rfl rfl rfl rfl rfl rfl ?_
    rw [t140n]; rfl
  | none, x :: r, hc, hn, sf =>
    refine call_of (E := E) (sh := sh) (ct := ctOf []) (na := 1) (m := 0) ctOf_nil rfl rfl rfl rfl rfl rfl ?_
    rw [t140c]
    simp only [List.length_cons] at hc
    simp [fd_br, fd_chk', fd_leaf, hc]

/-! ## below -/
theorem nil_len {α : Type} (l : List α) : ((l.length : Int) = 0) = (l = []) := by
  cases l <;> simp; omega
theorem okL_cons (t : Nd) (r : List Nd) (n : Nat) (f : Int) : okL (t :: r) n f = (okT t n && decide (f < hdB t.lab) && okL r n (hdB t.lab)) := by rw [okL]
theorem f147 (d : Nat) (ih : CSpecOk E 147 (s147 d)) (l : List Nd) (nl : Option Bool) (tt : Bool) (n : Int) (hd : depL l < d + 1) (h0 : 0 ≤ n) (h1 : n < 1000000) : call E 147 [.c (.sl 3 nl tt (encL l)), V.i n] [] = some ([V.b (okL l n.toNat (-1))], []) := by
  have hct : (ctOf [(133, s133), (147, s147 d)]).ok E := ctOf_cons s133_ok (ctOf_cons ih ctOf_nil)
  refine call_of (E := E) (sh := sh) (ct := ctOf [(133, s133), (147, s147 d)]) (na := 2) (m := 0) hct rfl rfl rfl rfl rfl rfl ?_
  show (p147 d).fd ((p147 d).ft _ _) = _
  rw [t147, encL_length]
  refine fd_post hct (by kernel_rfl) rfl (list_post (p := p147 d) hct (b := b147_0) l.length (fun k (f : Int) => s147_0 nl tt (encL l) n f l.length k) (fun k f => okL (l.drop k) n.toNat f = okL l n.toNat (-1) ∧ (k : Int) ≤ f + 1 ∧ f ≤ 255) _ ?_ ?_ 0 (Nat.zero_le _) (-1) ⟨rfl, by simp, by omega⟩)
  · rintro k f hk ⟨hi, hf, hf2⟩
    rw [List.drop_eq_getElem_cons hk, okL_cons, okT_eq] at hi
    have hkid : depL l[k].kids < d := by have := depL_kid (List.getElem_mem hk); omega
    have ex0 : okL l n.toNat (-1) = false → (p147 d).fd ((p147 d).fkx 0 (x147_0x0 l[k].lab none (rows l[k].rows) (encL l[k].kids))) = some (.out [V.b (okL l n.toNat (-1))] []) := fun h => by rw [k147_0x0, fd_leaf, h]
    have hh := hdB_lt l[k].lab
    rw [t147_0]
    simp only [nd_ok, nd_lab, nd_rows, nd_kids, encL_length, isL_enc, decL_enc, wrap_hd, hd_pos, ld_br, ld_chk', ld_leaf, fd_br, fd_chk', fd_leaf, decide_true, decide_eq_true_eq, if_true, Int.toNat_natCast, Int.natCast_nonneg, Int.ofNat_lt, Int.ofNat_le, Bool.false_eq_true, if_false, bne_iff_ne, beq_iff_eq, ne_eq, not_true_eq_false, not_false_eq_true, Bool.not_eq_true', decide_eq_false_iff_not, reduceCtorEq, rows_length, pcs_length, er_ok, er_ok', ep_ok, ep_ok', dr_er, dp_ep, isRows_rows, isPcs_pcs, toRows_rows, toPcs_pcs, rows_take, rows_drop, pcs_take, pcs_drop, rows_append, pcs_append, ints_length, isInts_ints, toInts_ints, ei_i, ei_ok, mk_headD, ints_take, ints_drop, ints_append, ints_snoc, ints_snoc', List.take_length, Nat.zero_add, Nat.le_refl, er_a, er_b, er_k, er_n, er_s, er_v, ep_a, ep_b, ep_hk, ep_hn, ep_hs, ep_wk, ep_wn, ep_ws, hk, encL_getD hk, wrap_succ (show k < 9223372036854775807 by omega), rows_length, checkR_ne, isRows_rows, toRows_rows, nil_len]
    by_cases c1 : l[k].lab = []
    · exact .inr ⟨x147_0x0 l[k].lab none (rows l[k].rows) (encL l[k].kids), by simp, ex0 (by rw [← hi]; simp [c1]), by rw [if_pos c1]⟩
    rw [if_neg c1]
    by_cases c2 : n < l[k].lab.length
    · exact .inr ⟨x147_0x0 l[k].lab none (rows l[k].rows) (encL l[k].kids), by simp, ex0 (by rw [← hi]; simp [show ¬ l[k].lab.length ≤ n.toNat by omega]), by rw [if_pos c2]⟩
    rw [if_neg c2, if_pos c1]
    by_cases c3 : hdB l[k].lab ≤ f
    · exact .inr ⟨x147_0x0 l[k].lab none (rows l[k].rows) (encL l[k].kids), by simp, ex0 (by rw [← hi]; simp [show ¬ f < hdB l[k].lab by omega]), by rw [if_pos c3]⟩
    rw [if_neg c3]
    by_cases c4 : right l[k].rows = false
    · exact .inr ⟨x147_0x0 l[k].lab none (rows l[k].rows) (encL l[k].kids), by simp, ex0 (by rw [← hi]; simp [c4]), by rw [if_pos c4]⟩
    rw [if_neg c4]
    rw [Bool.not_eq_false] at c4
    have w1 : IntKind.wrap .i64 (n - (l[k].lab.length : Int)) = ((n.toNat - l[k].lab.length : Nat) : Int) := by rw [wrap_same (by omega) (by omega)]; omega
    have c2' : l[k].lab.length ≤ n.toNat := by omega
    have c3' : f < hdB l[k].lab := by omega
    have w2 : ((n.toNat - l[k].lab.length : Nat) : Int) < 1000000 := by omega
    simp only [w1, hkid, w2, Int.natCast_nonneg, Int.toNat_natCast, if_true, c1, ne_eq, not_false_eq_true]
    have rest : (l[k].rows ≠ [] ∨ 2 ≤ l[k].kids.length) → ((∃ s', ((okL (l.drop (k + 1)) n.toNat s' = okL l n.toNat (-1)) ∧ ((k + 1 : Nat) : Int) ≤ s' + 1 ∧ s' ≤ 255) ∧ (if okL l[k].kids (n.toNat - l[k].lab.length) (-1) = false then some (R.x (x147_0x0 l[k].lab none (rows l[k].rows) (encL l[k].kids))) else some (R.s (s147_0 nl tt (encL l) n (hdB l[k].lab) l.length ((k + 1 : Nat) : Int)))) = some (R.s (s147_0 nl tt (encL l) n s' l.length ((k + 1 : Nat) : Int)))) ∨ (∃ x : Ex × Fr × Hp, x.1 ≠ .nrm ∧ (p147 d).fd ((p147 d).fkx 0 x) = some (.out [V.b (okL l n.toNat (-1))] []) ∧ (if okL l[k].kids (n.toNat - l[k].lab.length) (-1) = false then some (R.x (x147_0x0 l[k].lab none (rows l[k].rows) (encL l[k].kids))) else some (R.s (s147_0 nl tt (encL l) n (hdB l[k].lab) l.length ((k + 1 : Nat) : Int)))) = some (R.x x))) := by
      intro c5
      have e5 : (decide (l[k].rows ≠ []) || decide (2 ≤ l[k].kids.length)) = true := by simpa using c5
      by_cases c6 : okL l[k].kids (n.toNat - l[k].lab.length) (-1) = false
      · exact .inr ⟨x147_0x0 l[k].lab none (rows l[k].rows) (encL l[k].kids), by simp, ex0 (by rw [← hi, c6]; simp), by rw [if_pos c6]⟩
      · rw [Bool.not_eq_false] at c6
        refine .inl ⟨hdB l[k].lab, ⟨?_, by omega, hh.2⟩, by rw [if_neg (by simp [c6])]⟩
        rw [← hi, c6, c4, e5]; simp [c1, c2', c3']
    by_cases c5 : l[k].rows = []
    · rw [if_pos c5]
      by_cases c6 : (l[k].kids.length : Int) < 2
      · exact .inr ⟨x147_0x0 l[k].lab none (rows l[k].rows) (encL l[k].kids), by simp, ex0 (by rw [← hi]; simp [c5, show ¬ 2 ≤ l[k].kids.length by omega]), by rw [if_pos c6]⟩
      · rw [if_neg c6]
        exact rest (.inr (by omega))
    · rw [if_neg c5]
      exact rest (.inl c5)
  · rintro f ⟨hi, hf, hf2⟩
    rw [List.drop_length, okL] at hi
    rw [t147_0]
    exact ⟨x147_0x1 nl tt (encL l) n f l.length l.length, by simp, by rw [k147_0x1, fd_leaf, ← hi], by simp only [nd_ok, nd_lab, nd_rows, nd_kids, encL_length, isL_enc, decL_enc, wrap_hd, hd_pos, ld_br, ld_chk', ld_leaf, fd_br, fd_chk', fd_leaf, decide_true, decide_eq_true_eq, if_true, Int.toNat_natCast, Int.natCast_nonneg, Int.ofNat_lt, Int.ofNat_le, Bool.false_eq_true, if_false, bne_iff_ne, beq_iff_eq, ne_eq, not_true_eq_false, not_false_eq_true, Bool.not_eq_true', decide_eq_false_iff_not, reduceCtorEq, rows_length, pcs_length, er_ok, er_ok', ep_ok, ep_ok', dr_er, dp_ep, isRows_rows, isPcs_pcs, toRows_rows, toPcs_pcs, rows_take, rows_drop, pcs_take, pcs_drop, rows_append, pcs_append, ints_length, isInts_ints, toInts_ints, ei_i, ei_ok, mk_headD, ints_take, ints_drop, ints_append, ints_snoc, ints_snoc', List.take_length, Nat.zero_add, Nat.le_refl, er_a, er_b, er_k, er_n, er_s, er_v, ep_a, ep_b, ep_hk, ep_hn, ep_hs, ep_wk, ep_wn, ep_ws, Int.lt_irrefl]⟩
theorem s147_ok : ∀ d, CSpecOk E 147 (s147 d)
  | 0 => by
    intro a h cs vals h' he hc
    unfold s147 at he
    split at he <;> simp only [Option.some.injEq, Prod.mk.injEq, reduceCtorEq] at he
    obtain ⟨rfl, rfl, rfl⟩ := he
    simp [allT] at hc
  | d + 1 => by
    intro a h cs vals h' he hc
    unfold s147 at he
    split at he <;> simp only [Option.some.injEq, Prod.mk.injEq, reduceCtorEq] at he
    rename_i nl tt xs n
    obtain ⟨rfl, rfl, rfl⟩ := he
    simp only [allT, Bool.and_true, Bool.and_eq_true, decide_eq_true_eq] at hc
    obtain ⟨h1, h2, h3, h4⟩ := hc
    obtain ⟨l, rfl⟩ := isL_ex h1
    rw [decL_enc] at *
    exact f147 d (s147_ok d) l nl tt n h2 h3 h4
end Go.Proofs.YtbilmkcdhodenaaDoor

end

/-
  Radix trees: trees, written by a program: Check, Get; the reference's Right, Entries, Get; what is small.
-/
section
namespace Go.Proofs.YtbilmkcdhodenaaDoor
open Go Go.Ev
set_option pp.deepTerms true
set_option pp.maxSteps 1000000
set_option pp.funBinderTypes true
set_option pp.coercions.types true
variable (dd : Nat)
noncomputable abbrev p112 : Par := par E sh (ctOf [(147, s147 dd)]) 112 1 0
theorem t112 (s : List UInt8) (rn : Option Bool) (rt : Bool) (xs : List (List C)) (kn : Option Bool) (kt : Bool) (ys : List (List C)) : (p112 dd).ft ([V.agg [V.c (C.str s), V.c (C.sl 5 rn rt xs), V.c (C.sl 3 kn kt ys)]]) ([]) = (Tr.br (!s == []) (Tr.leaf (R.out [V.c (C.int IntKind.i64 2)] [])) (Tr.br (decide (0 < (↑xs.length : Int))) (Tr.leaf (R.out [V.c (C.int IntKind.i64 2)] [])) (Tr.chk (isL ys) (Tr.chk (decide (depL (decL ys) < dd)) (Tr.chk true (Tr.chk true (Tr.br (!okL (decL ys) (Int.toNat 24) (-1)) (Tr.leaf (R.out [V.c (C.int IntKind.i64 2)] [])) (Tr.leaf (R.out [V.c (C.int IntKind.i64 0)] []))))))))) := by kernel_rfl
def checkT (t : Nd) : Int := if okR t = true then 0 else 2
def s112 : CSpec := fun a h => match a, h with
  | [.agg [.c (.str s), .c (.sl 5 rn rt xs), .c (.sl 3 kn kt ys)]], [] => some ([isRows xs, isL ys], [V.i (checkT (.node s (toRows xs) (decL ys)))], [])
  | _, _ => none
def s139 : CSpec := fun a h => match a, h with
  | [.c (.sl 3 nl tt xs), .c (.int .u8 b)], [] => some ([isL xs, labsOk (decL xs), decide (0 ≤ b), decide (b ≤ 255), decide (xs.length < 4294967296)], [V.i (posK (decL xs) b), V.b (hitK (decL xs) b)], [])
  | _, _ => none
noncomputable abbrev p102 : Par := par E sh (ctOf [(112, s112), (139, s139), (94, s137), (140, s140)]) 102 2 0
abbrev s102_0 (s : List UInt8) (rn : Option Bool) (rt : Bool) (xs : List (List C)) (kn : Option Bool) (kt : Bool) (ys : List (List C)) (q : List UInt8) : Fr × Hp := ([(1, V.c (C.str q)), (2, V.ptr 0 0 0 0)], [O.box [V.c (C.str s), V.c (C.sl 5 rn rt xs), V.c (C.sl 3 kn kt ys)]])
noncomputable abbrev b102_0 : Code := loopAt (codeOf p102.E p102.g) 0
abbrev x102_0x0 (s : List UInt8) (rn : Option Bool) (rt : Bool) (xs : List (List C)) (kn : Option Bool) (kt : Bool) (ys : List (List C)) : Ex × Fr × Hp := (Ex.ret, [(4, V.c (C.sl 5 (some true) true []))], [O.box [V.c (C.str s), V.c (C.sl 5 rn rt xs), V.c (C.sl 3 kn kt ys)]])
abbrev x102_0x1 (s : List UInt8) (rn : Option Bool) (rt : Bool) (xs : List (List C)) (kn : Option Bool) (kt : Bool) (ys : List (List C)) (q : List UInt8) : Ex × Fr × Hp := (Ex.exit 0, [(1, V.c (C.str q)), (2, V.ptr 0 0 0 0), (11, V.c (C.bool false))], [O.box [V.c (C.str s), V.c (C.sl 5 rn rt xs), V.c (C.sl 3 kn kt ys)]])
theorem t102_0 (s : List UInt8) (rn : Option Bool) (rt : Bool) (xs : List (List C)) (kn : Option Bool) (kt : Bool) (ys : List (List C)) (q : List UInt8) : p102.lts b102_0 (s102_0 s rn rt xs kn kt ys q) = (Tr.br (!q == []) (Tr.chk true (Tr.chk (decide (Int.toNat 0 < q.length)) (Tr.chk (isL ys) (Tr.chk (labsOk (decL ys)) (Tr.chk true (Tr.chk (decide ((↑(q.getD (Int.toNat 0) 0).toNat : Int) ≤ 255)) (Tr.chk (decide (ys.length < 4294967296)) (Tr.br (!hitK (decL ys) (↑(q.getD (Int.toNat 0) 0).toNat : Int)) (Tr.leaf (R.x (x102_0x0 s rn rt xs kn kt ys))) (Tr.chk true (Tr.chk true (Tr.chk (decide ((↑(posK (decL ys) (↑(q.getD (Int.toNat 0) 0).toNat : Int)) : Int).toNat < ys.length)) (Tr.chk (shOk [Sk.str, Sk.sl 5, Sk.sl 3] (ys.getD (↑(posK (decL ys) (↑(q.getD (Int.toNat 0) 0).toNat : Int)) : Int).toNat [])) (Tr.br (!begins q ((ys.getD (↑(posK (decL ys) (↑(q.getD (Int.toNat 0) 0).toNat : Int)) : Int).toNat []).headD C.pnil).st) (Tr.leaf (R.x (x102_0x0 s rn rt xs kn kt ys))) (Tr.chk true (Tr.chk true (Tr.chk (decide ((↑(posK (decL ys) (↑(q.getD (Int.toNat 0) 0).toNat : Int)) : Int).toNat < ys.length)) (Tr.chk (shOk [Sk.str, Sk.sl 5, Sk.sl 3] (ys.getD (↑(posK (decL ys) (↑(q.getD (Int.toNat 0) 0).toNat : Int)) : Int).toNat [])) (Tr.chk true (Tr.chk (decide ((↑((ys.getD (↑(posK (decL ys) (↑(q.getD (Int.toNat 0) 0).toNat : Int)) : Int).toNat []).headD C.pnil).st.length : Int).toNat ≤ q.length)) (Tr.chk (decide (q.length ≤ q.length)) (Tr.leaf (R.s (s102_0 (((ys.getD (↑(posK (decL ys) (↑(q.getD (Int.toNat 0) 0).toNat : Int)) : Int).toNat []).headD C.pnil).st) (none) false (((ys.getD (↑(posK (decL ys) (↑(q.getD (Int.toNat 0) 0).toNat : Int)) : Int).toNat []).tail.headD C.pnil).xs) (none) false (((ys.getD (↑(posK (decL ys) (↑(q.getD (Int.toNat 0) 0).toNat : Int)) : Int).toNat []).tail.tail.headD C.pnil).xs) (List.drop (↑((ys.getD (↑(posK (decL ys) (↑(q.getD (Int.toNat 0) 0).toNat : Int)) : Int).toNat []).headD C.pnil).st.length : Int).toNat (List.take q.length q))))))))))))))))))))))))) (Tr.leaf (R.x (x102_0x1 s rn rt xs kn kt ys q)))) := by kernel_rfl
theorem k102_0x0 (s : List UInt8) (rn : Option Bool) (rt : Bool) (xs : List (List C)) (kn : Option Bool) (kt : Bool) (ys : List (List C)) : p102.fkx 0 (x102_0x0 s rn rt xs kn kt ys) = (Tr.leaf (R.out [V.c (C.sl 5 none false [])] [])) := by kernel_rfl
theorem k102_0x1 (s : List UInt8) (rn : Option Bool) (rt : Bool) (xs : List (List C)) (kn : Option Bool) (kt : Bool) (ys : List (List C)) (q : List UInt8) : p102.fkx 0 (x102_0x1 s rn rt xs kn kt ys q) = (Tr.chk (decide (xs.length < 4294967296)) (Tr.chk (decide (rn ≠ some true ∨ xs = [])) (Tr.leaf (R.out [V.c (C.sl 5 none false xs)] [])))) := by kernel_rfl
theorem t102 (s : List UInt8) (rn : Option Bool) (rt : Bool) (xs : List (List C)) (kn : Option Bool) (kt : Bool) (ys : List (List C)) (q : List UInt8) : p102.ft ([V.agg [V.c (C.str s), V.c (C.sl 5 rn rt xs), V.c (C.sl 3 kn kt ys)], V.c (C.str q)]) ([]) = (Tr.chk (isRows xs) (Tr.chk (isL ys) (Tr.br (checkT (Nd.node s (toRows xs) (decL ys)) != 0) (Tr.leaf (R.out [V.c (C.sl 5 none false [])] [])) (Tr.ls 0 (s102_0 s rn rt xs kn kt ys q))))) := by kernel_rfl
def s199 : CSpec := fun a h => match a, h with
  | [.agg [.c (.str s), .c (.sl 5 none false xs), .c (.sl 3 none false ys)], .c (.int .i64 n)], [] => some ([isRows xs, isL ys, decide (depL (decL ys) + 1 < dd), decide (0 ≤ n), decide (n < 1000000)], [V.b (okT (.node s (toRows xs) (decL ys)) n.toNat)], [])
  | _, _ => none
def s178 : CSpec := fun a h => match a, h with
  | [.agg [.c (.str s), .c (.sl 5 rn rt xs), .c (.sl 3 kn kt ys)], .c (.int .i64 n)], [] => some ([isRows xs, isL ys, decide (depL (decL ys) < dd), decide (0 ≤ n), decide (n < 1000000)], [V.b (okL (decL ys) n.toNat (-1))], [])
  | _, _ => none
noncomputable abbrev p178 : Par := par E sh (ctOf [(199, s199 dd)]) 178 2 0
abbrev s178_0 (s : List UInt8) (rn : Option Bool) (rt : Bool) (xs : List (List C)) (kn : Option Bool) (kt : Bool) (ys : List (List C)) (n : Int) (i5 : Int) : Fr × Hp := ([(1, V.c (C.int IntKind.i64 n)), (2, V.ptr 0 0 0 0), (5, V.c (C.int IntKind.i64 i5))], [O.box [V.c (C.str s), V.c (C.sl 5 rn rt xs), V.c (C.sl 3 kn kt ys)]])
noncomputable abbrev b178_0 : Code := loopAt (codeOf E (178)) 0
abbrev x178_0x0 (s : List UInt8) (rn : Option Bool) (rt : Bool) (xs : List (List C)) (kn : Option Bool) (kt : Bool) (ys : List (List C)) : Ex × Fr × Hp := (Ex.ret, [(4, V.c (C.bool false))], [O.box [V.c (C.str s), V.c (C.sl 5 rn rt xs), V.c (C.sl 3 kn kt ys)]])
abbrev x178_0x1 (s : List UInt8) (rn : Option Bool) (rt : Bool) (xs : List (List C)) (kn : Option Bool) (kt : Bool) (ys : List (List C)) (n : Int) (i5 : Int) : Ex × Fr × Hp := (Ex.exit 0, [(1, V.c (C.int IntKind.i64 n)), (2, V.ptr 0 0 0 0), (5, V.c (C.int IntKind.i64 i5)), (14, V.c (C.bool false))], [O.box [V.c (C.str s), V.c (C.sl 5 rn rt xs), V.c (C.sl 3 kn kt ys)]])
theorem t178_0 (s : List UInt8) (rn : Option Bool) (rt : Bool) (xs : List (List C)) (kn : Option Bool) (kt : Bool) (ys : List (List C)) (n : Int) (i5 : Int) : (p178 dd).lts b178_0 (s178_0 s rn rt xs kn kt ys n i5) = (Tr.br (decide (i5 < (↑ys.length : Int))) (Tr.chk (decide (0 ≤ i5)) (Tr.chk true (Tr.chk (decide (i5.toNat < ys.length)) (Tr.chk (shOk [Sk.str, Sk.sl 5, Sk.sl 3] (ys.getD i5.toNat [])) (Tr.chk (isRows ((ys.getD i5.toNat []).tail.headD C.pnil).xs) (Tr.chk (isL ((ys.getD i5.toNat []).tail.tail.headD C.pnil).xs) (Tr.chk (decide (depL (decL ((ys.getD i5.toNat []).tail.tail.headD C.pnil).xs) + 1 < dd)) (Tr.chk (decide (0 ≤ n)) (Tr.chk (decide (n < 1000000)) (Tr.br (!okT (Nd.node ((ys.getD i5.toNat []).headD C.pnil).st (toRows ((ys.getD i5.toNat []).tail.headD C.pnil).xs) (decL ((ys.getD i5.toNat []).tail.tail.headD C.pnil).xs)) n.toNat) (Tr.leaf (R.x (x178_0x0 s rn rt xs kn kt ys))) (Tr.br (decide (0 < i5)) (Tr.chk (decide (0 ≤ IntKind.i64.wrap (i5 - 1))) (Tr.chk true (Tr.chk (decide ((IntKind.i64.wrap (i5 - 1)).toNat < ys.length)) (Tr.chk (shOk [Sk.str, Sk.sl 5, Sk.sl 3] (ys.getD (IntKind.i64.wrap (i5 - 1)).toNat [])) (Tr.chk true (Tr.chk (decide (Int.toNat 0 < ((ys.getD (IntKind.i64.wrap (i5 - 1)).toNat []).headD C.pnil).st.length)) (Tr.chk (decide (0 ≤ i5)) (Tr.chk true (Tr.chk (decide (i5.toNat < ys.length)) (Tr.chk (shOk [Sk.str, Sk.sl 5, Sk.sl 3] (ys.getD i5.toNat [])) (Tr.chk true (Tr.chk (decide (Int.toNat 0 < ((ys.getD i5.toNat []).headD C.pnil).st.length)) (Tr.br (decide ((↑(((ys.getD i5.toNat []).headD C.pnil).st.getD (Int.toNat 0) 0).toNat : Int) ≤ (↑(((ys.getD (IntKind.i64.wrap (i5 - 1)).toNat []).headD C.pnil).st.getD (Int.toNat 0) 0).toNat : Int))) (Tr.leaf (R.x (x178_0x0 s rn rt xs kn kt ys))) (Tr.leaf (R.s (s178_0 s rn rt xs kn kt ys n (IntKind.i64.wrap (i5 + 1)))))))))))))))))) (Tr.leaf (R.s (s178_0 s rn rt xs kn kt ys n (IntKind.i64.wrap (i5 + 1)))))))))))))))) (Tr.leaf (R.x (x178_0x1 s rn rt xs kn kt ys n i5)))) := by kernel_rfl
theorem k178_0x0 (dd : Nat) (s : List UInt8) (rn : Option Bool) (rt : Bool) (xs : List (List C)) (kn : Option Bool) (kt : Bool) (ys : List (List C)) : (p178 dd).fkx 0 (x178_0x0 s rn rt xs kn kt ys) = (Tr.leaf (R.out [V.c (C.bool false)] [])) := by kernel_rfl
theorem k178_0x1 (dd : Nat) (s : List UInt8) (rn : Option Bool) (rt : Bool) (xs : List (List C)) (kn : Option Bool) (kt : Bool) (ys : List (List C)) (n : Int) (i5 : Int) : (p178 dd).fkx 0 (x178_0x1 s rn rt xs kn kt ys n i5) = (Tr.leaf (R.out [V.c (C.bool true)] [])) := by kernel_rfl
theorem t178 (s : List UInt8) (rn : Option Bool) (rt : Bool) (xs : List (List C)) (kn : Option Bool) (kt : Bool) (ys : List (List C)) (n : Int) : (p178 dd).ft ([V.agg [V.c (C.str s), V.c (C.sl 5 rn rt xs), V.c (C.sl 3 kn kt ys)], V.i n]) ([]) = (Tr.br (decide (256 < (↑ys.length : Int))) (Tr.leaf (R.out [V.c (C.bool false)] [])) (Tr.ls 0 (s178_0 s rn rt xs kn kt ys n (0)))) := by kernel_rfl
def s90 : CSpec := fun a h => match a, h with
  | [.c (.sl 5 nl tt xs)], [] => some ([isRows xs], [V.b (right (toRows xs))], [])
  | _, _ => none
noncomputable abbrev p199 : Par := par E sh (ctOf [(90, s90), (178, s178 dd)]) 199 2 0
theorem t199 (s : List UInt8) (xs : List (List C)) (ys : List (List C)) (n : Int) : (p199 dd).ft ([V.agg [V.c (C.str s), V.c (C.sl 5 none false xs), V.c (C.sl 3 none false ys)], V.i n]) ([]) = (Tr.br (s == []) (Tr.leaf (R.out [V.c (C.bool false)] [])) (Tr.br (decide (n < (↑s.length : Int))) (Tr.leaf (R.out [V.c (C.bool false)] [])) (Tr.chk (isRows xs) (Tr.br (!right (toRows xs)) (Tr.leaf (R.out [V.c (C.bool false)] [])) (Tr.br ((↑xs.length : Int) == 0) (Tr.br (decide ((↑ys.length : Int) < 2)) (Tr.leaf (R.out [V.c (C.bool false)] [])) (Tr.chk (isRows xs) (Tr.chk (isL ys) (Tr.chk (decide (depL (decL ys) < dd)) (Tr.chk (decide (0 ≤ IntKind.i64.wrap (n - (↑s.length : Int)))) (Tr.chk (decide (IntKind.i64.wrap (n - (↑s.length : Int)) < 1000000)) (Tr.leaf (R.out [V.c (C.bool (okL (decL ys) (IntKind.i64.wrap (n - (↑s.length : Int))).toNat (-1)))] [])))))))) (Tr.chk (isRows xs) (Tr.chk (isL ys) (Tr.chk (decide (depL (decL ys) < dd)) (Tr.chk (decide (0 ≤ IntKind.i64.wrap (n - (↑s.length : Int)))) (Tr.chk (decide (IntKind.i64.wrap (n - (↑s.length : Int)) < 1000000)) (Tr.leaf (R.out [V.c (C.bool (okL (decL ys) (IntKind.i64.wrap (n - (↑s.length : Int))).toNat (-1)))] [])))))))))))) := by kernel_rfl
noncomputable abbrev p142 : Par := par E sh (ctOf [(178, s178 dd)]) 142 1 0
theorem t142 (s : List UInt8) (rn : Option Bool) (rt : Bool) (xs : List (List C)) (kn : Option Bool) (kt : Bool) (ys : List (List C)) : (p142 dd).ft ([V.agg [V.c (C.str s), V.c (C.sl 5 rn rt xs), V.c (C.sl 3 kn kt ys)]]) ([]) = (Tr.br (s == []) (Tr.br ((↑xs.length : Int) == 0) (Tr.chk (isRows xs) (Tr.chk (isL ys) (Tr.chk (decide (depL (decL ys) < dd)) (Tr.chk true (Tr.chk true (Tr.leaf (R.out [V.c (C.bool (okL (decL ys) (Int.toNat 24) (-1)))] []))))))) (Tr.leaf (R.out [V.c (C.bool false)] []))) (Tr.leaf (R.out [V.c (C.bool false)] []))) := by kernel_rfl
def s142 : CSpec := fun a h => match a, h with
  | [.agg [.c (.str s), .c (.sl 5 rn rt xs), .c (.sl 3 kn kt ys)]], [] => some ([isRows xs, isL ys], [V.b (okR (.node s (toRows xs) (decL ys)))], [])
  | _, _ => none
/-- Entries as cells. -/
def ee (e : Ent) : List C := [.str e.1, .sl 5 none false (rows e.2)]
def ents (l : List Ent) : List (List C) := l.map ee
def pre (a : List UInt8) (l : List Ent) : List Ent := l.map fun e => (a ++ e.1, e.2)
def s179 : CSpec := fun a h => match a, h with
  | [.agg [.c (.str s), .c (.sl 5 rn rt xs), .c (.sl 3 kn kt ys)], .c (.str q)], [] => some ([isRows xs, isL ys, decide (depL (decL ys) < dd), decide (q.length + s.length ≤ 24), okL (decL ys) (24 - (q.length + s.length)) (-1), decide ((entT (.node s (toRows xs) (decL ys))).length < 4294967290), decide (rn = none ∧ rt = false ∨ xs = [])], [.c (.sl 2 none false (ents (pre q (entT (.node s (toRows xs) (decL ys))))))], [])
  | _, _ => none
noncomputable abbrev p179 : Par := par E sh (ctOf [(179, s179 dd)]) 179 2 0
abbrev s179_0 (s : List UInt8) (rn : Option Bool) (rt : Bool) (xs : List (List C)) (kn : Option Bool) (kt : Bool) (ys : List (List C)) (s5 : List UInt8) (n6 : Nat) (i7 : Int) (ys1 : List (List C)) : Fr × Hp := ([(2, V.ptr 0 0 0 0), (5, V.c (C.str s5)), (6, V.buf 1 0 0 n6), (7, V.c (C.int IntKind.i64 i7))], [O.box [V.c (C.str s), V.c (C.sl 5 rn rt xs), V.c (C.sl 3 kn kt ys)], O.mem 2 0 ys1])
noncomputable abbrev b179_0 : Code := loopAt (codeOf E (179)) 0
abbrev x179_0x0 (s : List UInt8) (rn : Option Bool) (rt : Bool) (xs : List (List C)) (kn : Option Bool) (kt : Bool) (ys : List (List C)) (s5 : List UInt8) (n6 : Nat) (i7 : Int) (ys1 : List (List C)) : Ex × Fr × Hp := (Ex.exit 0, [(2, V.ptr 0 0 0 0), (5, V.c (C.str s5)), (6, V.buf 1 0 0 n6), (7, V.c (C.int IntKind.i64 i7)), (27, V.c (C.bool false))], [O.box [V.c (C.str s), V.c (C.sl 5 rn rt xs), V.c (C.sl 3 kn kt ys)], O.mem 2 0 ys1])
theorem t179_0 (s : List UInt8) (rn : Option Bool) (rt : Bool) (xs : List (List C)) (kn : Option Bool) (kt : Bool) (ys : List (List C)) (s5 : List UInt8) (n6 : Nat) (i7 : Int) (ys1 : List (List C)) : (p179 dd).lts b179_0 (s179_0 s rn rt xs kn kt ys s5 n6 i7 ys1) = (Tr.br (decide (i7 < (↑ys.length : Int))) (Tr.chk (decide (0 ≤ i7)) (Tr.chk true (Tr.chk (decide (i7.toNat < ys.length)) (Tr.chk (shOk [Sk.str, Sk.sl 5, Sk.sl 3] (ys.getD i7.toNat [])) (Tr.chk (isRows ((ys.getD i7.toNat []).tail.headD C.pnil).xs) (Tr.chk (isL ((ys.getD i7.toNat []).tail.tail.headD C.pnil).xs) (Tr.chk (decide (depL (decL ((ys.getD i7.toNat []).tail.tail.headD C.pnil).xs) < dd)) (Tr.chk (decide (s5.length + ((ys.getD i7.toNat []).headD C.pnil).st.length ≤ 24)) (Tr.chk (okL (decL ((ys.getD i7.toNat []).tail.tail.headD C.pnil).xs) (24 - (s5.length + ((ys.getD i7.toNat []).headD C.pnil).st.length)) (-1)) (Tr.chk (decide ((entT (Nd.node ((ys.getD i7.toNat []).headD C.pnil).st (toRows ((ys.getD i7.toNat []).tail.headD C.pnil).xs) (decL ((ys.getD i7.toNat []).tail.tail.headD C.pnil).xs))).length < 4294967290)) (Tr.chk true (Tr.chk true (Tr.chk true (Tr.chk (decide (n6 + (ents (pre s5 (entT (Nd.node ((ys.getD i7.toNat []).headD C.pnil).st (toRows ((ys.getD i7.toNat []).tail.headD C.pnil).xs) (decL ((ys.getD i7.toNat []).tail.tail.headD C.pnil).xs))))).length < 4294967296)) (Tr.chk true (Tr.leaf (R.s (s179_0 s rn rt xs kn kt ys s5 (n6 + (ents (pre s5 (entT (Nd.node ((ys.getD i7.toNat []).headD C.pnil).st (toRows ((ys.getD i7.toNat []).tail.headD C.pnil).xs) (decL ((ys.getD i7.toNat []).tail.tail.headD C.pnil).xs))))).length) (IntKind.i64.wrap (i7 + 1)) (List.take n6 ys1 ++ ents (pre s5 (entT (Nd.node ((ys.getD i7.toNat []).headD C.pnil).st (toRows ((ys.getD i7.toNat []).tail.headD C.pnil).xs) (decL ((ys.getD i7.toNat []).tail.tail.headD C.pnil).xs))))))))))))))))))))))) (Tr.leaf (R.x (x179_0x0 s rn rt xs kn kt ys s5 n6 i7 ys1)))) := by kernel_rfl
theorem k179_0x0 (dd : Nat) (s : List UInt8) (rn : Option Bool) (rt : Bool) (xs : List (List C)) (kn : Option Bool) (kt : Bool) (ys : List (List C)) (s5 : List UInt8) (n6 : Nat) (i7 : Int) (ys1 : List (List C)) : (p179 dd).fkx 0 (x179_0x0 s rn rt xs kn kt ys s5 n6 i7 ys1) = (Tr.leaf (R.out [V.c (C.sl 2 none false (List.take n6 ys1))] [])) := by kernel_rfl
theorem t179 (s : List UInt8) (rn : Option Bool) (rt : Bool) (xs : List (List C)) (kn : Option Bool) (kt : Bool) (ys : List (List C)) (q : List UInt8) : (p179 dd).ft ([V.agg [V.c (C.str s), V.c (C.sl 5 rn rt xs), V.c (C.sl 3 kn kt ys)], V.c (C.str q)]) ([]) = (Tr.chk (decide (q.length + s.length < 4294967296)) (Tr.br (decide (0 < (↑xs.length : Int))) (Tr.chk true (Tr.chk true (Tr.chk true (Tr.chk true (Tr.ls 0 (s179_0 s rn rt xs kn kt ys (q ++ s) (1) (0) ([[C.str (q ++ s), C.sl 5 rn rt xs]]))))))) (Tr.ls 0 (s179_0 s rn rt xs kn kt ys (q ++ s) (0) (0) ([]))))) := by kernel_rfl
noncomputable abbrev p143 : Par := par E sh (ctOf [(142, s142), (179, s179 dd)]) 143 1 0
theorem t143 (s : List UInt8) (rn : Option Bool) (rt : Bool) (xs : List (List C)) (kn : Option Bool) (kt : Bool) (ys : List (List C)) : (p143 dd).ft ([V.agg [V.c (C.str s), V.c (C.sl 5 rn rt xs), V.c (C.sl 3 kn kt ys)]]) ([]) = (Tr.chk (isRows xs) (Tr.chk (isL ys) (Tr.br (!okR (Nd.node s (toRows xs) (decL ys))) (Tr.leaf (R.out [V.c (C.sl 2 none false [])] [])) (Tr.chk (isRows xs) (Tr.chk (isL ys) (Tr.chk (decide (depL (decL ys) < dd)) (Tr.chk (decide (0 + s.length ≤ 24)) (Tr.chk (okL (decL ys) (24 - (0 + s.length)) (-1)) (Tr.chk (decide ((entT (Nd.node s (toRows xs) (decL ys))).length < 4294967290)) (Tr.chk (decide (rn = none ∧ rt = false ∨ xs = [])) (Tr.leaf (R.out [V.c (C.sl 2 none false (ents (pre [] (entT (Nd.node s (toRows xs) (decL ys))))))] [])))))))))))) := by kernel_rfl
def s143 : CSpec := fun a h => match a, h with
  | [.agg [.c (.str s), .c (.sl 5 rn rt xs), .c (.sl 3 kn kt ys)]], [] => some ([isRows xs, isL ys, decide ((entT (.node s (toRows xs) (decL ys))).length < 4294967290)], [.c (.sl 2 none false (ents (if okR (.node s (toRows xs) (decL ys)) = true then entT (.node s (toRows xs) (decL ys)) else [])))], [])
  | _, _ => none
noncomputable abbrev p105 : Par := par E sh (ctOf [(143, s143)]) 105 2 0
abbrev s105_0 (q : List UInt8) (nl5 : Option Bool) (t5 : Bool) (xs5 : List (List C)) (i6 : Int) : Fr × Hp := ([(1, V.c (C.str q)), (5, V.c (C.sl 2 nl5 t5 xs5)), (6, V.c (C.int IntKind.i64 i6))], [])
noncomputable abbrev b105_0 : Code := loopAt (codeOf p105.E p105.g) 0
abbrev x105_0x0 (nl4 : Option Bool) (xs4 : List (List C)) : Ex × Fr × Hp := (Ex.ret, [(4, V.c (C.sl 5 nl4 false xs4))], [])
abbrev x105_0x1 (q : List UInt8) (nl5 : Option Bool) (t5 : Bool) (xs5 : List (List C)) (i6 : Int) : Ex × Fr × Hp := (Ex.exit 0, [(1, V.c (C.str q)), (5, V.c (C.sl 2 nl5 t5 xs5)), (6, V.c (C.int IntKind.i64 i6)), (12, V.c (C.bool false))], [])
theorem t105_0 (q : List UInt8) (nl5 : Option Bool) (t5 : Bool) (xs5 : List (List C)) (i6 : Int) : p105.lts b105_0 (s105_0 q nl5 t5 xs5 i6) = (Tr.br (decide (i6 < (↑xs5.length : Int))) (Tr.chk (decide (0 ≤ i6)) (Tr.chk true (Tr.chk (decide (i6.toNat < xs5.length)) (Tr.chk (shOk [Sk.str, Sk.sl 5] (xs5.getD i6.toNat [])) (Tr.br (((xs5.getD i6.toNat []).headD C.pnil).st == q) (Tr.chk (decide (0 ≤ i6)) (Tr.chk true (Tr.chk (decide (i6.toNat < xs5.length)) (Tr.chk (shOk [Sk.str, Sk.sl 5] (xs5.getD i6.toNat [])) (Tr.leaf (R.x (x105_0x0 (none) (((xs5.getD i6.toNat []).tail.headD C.pnil).xs)))))))) (Tr.leaf (R.s (s105_0 q nl5 t5 xs5 (IntKind.i64.wrap (i6 + 1)))))))))) (Tr.leaf (R.x (x105_0x1 q nl5 t5 xs5 i6)))) := by kernel_rfl
theorem k105_0x0 (nl4 : Option Bool) (xs4 : List (List C)) : p105.fkx 0 (x105_0x0 nl4 xs4) = (Tr.leaf (R.out [V.c (C.sl 5 none false xs4)] [])) := by kernel_rfl
theorem k105_0x1 (q : List UInt8) (nl5 : Option Bool) (t5 : Bool) (xs5 : List (List C)) (i6 : Int) : p105.fkx 0 (x105_0x1 q nl5 t5 xs5 i6) = (Tr.leaf (R.out [V.c (C.sl 5 none false [])] [])) := by kernel_rfl
theorem t105 (s : List UInt8) (rn : Option Bool) (rt : Bool) (xs : List (List C)) (kn : Option Bool) (kt : Bool) (ys : List (List C)) (q : List UInt8) : p105.ft ([V.agg [V.c (C.str s), V.c (C.sl 5 rn rt xs), V.c (C.sl 3 kn kt ys)], V.c (C.str q)]) ([]) = (Tr.chk (isRows xs) (Tr.chk (isL ys) (Tr.chk (decide ((entT (Nd.node s (toRows xs) (decL ys))).length < 4294967290)) (Tr.ls 0 (s105_0 q (none) false (ents (if okR (Nd.node s (toRows xs) (decL ys)) = true then entT (Nd.node s (toRows xs) (decL ys)) else [])) (0)))))) := by kernel_rfl
noncomputable abbrev p99 : Par := par E sh (ctOf []) 99 1 0
abbrev s99_0 (nl : Option Bool) (tt : Bool) (xs : List (List C)) (i3 : Int) : Fr × Hp := ([(0, V.c (C.sl 5 nl tt xs)), (3, V.c (C.int IntKind.i64 i3))], [])
noncomputable abbrev b99_0 : Code := loopAt (codeOf p99.E p99.g) 0
abbrev x99_0x0 : Ex × Fr × Hp := (Ex.ret, [(2, V.c (C.bool false))], [])
abbrev x99_0x1 (nl : Option Bool) (tt : Bool) (xs : List (List C)) (i3 : Int) : Ex × Fr × Hp := (Ex.exit 0, [(0, V.c (C.sl 5 nl tt xs)), (3, V.c (C.int IntKind.i64 i3)), (10, V.c (C.bool false))], [])
theorem t99_0 (nl : Option Bool) (tt : Bool) (xs : List (List C)) (i3 : Int) : p99.lts b99_0 (s99_0 nl tt xs i3) = (Tr.br (decide (i3 < (↑xs.length : Int))) (Tr.chk (decide (0 ≤ i3)) (Tr.chk true (Tr.chk (decide (i3.toNat < xs.length)) (Tr.chk (shOk [Sk.int IntKind.i64, Sk.int IntKind.i64, Sk.int IntKind.i64, Sk.int IntKind.i64, Sk.str] (xs.getD i3.toNat [])) (Tr.br (decide (100 < (↑((xs.getD i3.toNat []).tail.tail.tail.tail.headD C.pnil).st.length : Int))) (Tr.leaf (R.x x99_0x0)) (Tr.leaf (R.s (s99_0 nl tt xs (IntKind.i64.wrap (i3 + 1)))))))))) (Tr.leaf (R.x (x99_0x1 nl tt xs i3)))) := by kernel_rfl
theorem k99_0x0 : p99.fkx 0 x99_0x0 = (Tr.leaf (R.out [V.c (C.bool false)] [])) := by kernel_rfl
theorem k99_0x1 (nl : Option Bool) (tt : Bool) (xs : List (List C)) (i3 : Int) : p99.fkx 0 (x99_0x1 nl tt xs i3) = (Tr.leaf (R.out [V.c (C.bool true)] [])) := by kernel_rfl
theorem t99 (nl : Option Bool) (tt : Bool) (xs : List (List C)) : p99.ft ([V.c (C.sl 5 nl tt xs)]) ([]) = (Tr.br (decide (70 < (↑xs.length : Int))) (Tr.leaf (R.out [V.c (C.bool false)] [])) (Tr.ls 0 (s99_0 nl tt xs (0)))) := by kernel_rfl
def shortR (l : List Row) : Bool := decide (l.length ≤ 70) && l.all fun r => decide (r.v.s.length ≤ 100)
def s99 : CSpec := fun a h => match a, h with
  | [.c (.sl 5 nl tt xs)], [] => some ([isRows xs], [V.b (shortR (toRows xs))], [])
  | _, _ => none
mutual
/-- No label, no rows longer than may be. -/
def lensT : Nd → Bool
  | .node lab rs kids => decide (lab.length ≤ 9223372036854775807) && decide (rs.length ≤ 9223372036854775807) && decide (kids.length ≤ 9223372036854775807) && lensL kids
def lensL : List Nd → Bool
  | [] => true
  | t :: r => lensT t && lensL r
end
mutual
/-- How much of so much is left without a tree. -/
def leftT : Nd → Int → Int → Int
  | .node lab rs kids, n, deep => if deep < 1 ∨ n - 1 - ((lab.length / 50 : Nat) : Int) < 1 ∨ shortR rs = false then 0 else leftL kids (n - 1 - ((lab.length / 50 : Nat) : Int)) (deep - 1)
def leftL : List Nd → Int → Int → Int
  | [], n, _ => n
  | t :: r, n, deep => if 0 < n then leftL r (leftT t n deep) deep else n
end
def s59 : CSpec := fun a h => match a, h with
  | [.agg [.c (.str s), .c (.sl 5 rn rt xs), .c (.sl 3 kn kt ys)], .c (.int .i64 n), .c (.int .i64 d)], [] => some ([isRows xs, isL ys, decide (depL (decL ys) < dd), decide (0 ≤ n), decide (n ≤ 1000), decide (-1000 ≤ d), decide (d ≤ 1000), lensT (.node s (toRows xs) (decL ys))], [V.i (leftT (.node s (toRows xs) (decL ys)) n d)], [])
  | _, _ => none
noncomputable abbrev p59 : Par := par E sh (ctOf [(99, s99), (59, s59 dd)]) 59 3 0
abbrev s59_0 (s : List UInt8) (rn : Option Bool) (rt : Bool) (xs : List (List C)) (kn : Option Bool) (kt : Bool) (ys : List (List C)) (d : Int) (i1 : Int) (i7 : Int) : Fr × Hp := ([(1, V.c (C.int IntKind.i64 i1)), (2, V.c (C.int IntKind.i64 d)), (3, V.ptr 0 0 0 0), (7, V.c (C.int IntKind.i64 i7))], [O.box [V.c (C.str s), V.c (C.sl 5 rn rt xs), V.c (C.sl 3 kn kt ys)]])
noncomputable abbrev b59_0 : Code := loopAt (codeOf E (59)) 0
abbrev x59_0x0 (s : List UInt8) (rn : Option Bool) (rt : Bool) (xs : List (List C)) (kn : Option Bool) (kt : Bool) (ys : List (List C)) (d : Int) (i1 : Int) (i7 : Int) : Ex × Fr × Hp := (Ex.exit 0, [(1, V.c (C.int IntKind.i64 i1)), (2, V.c (C.int IntKind.i64 d)), (3, V.ptr 0 0 0 0), (7, V.c (C.int IntKind.i64 i7)), (35, V.c (C.bool false))], [O.box [V.c (C.str s), V.c (C.sl 5 rn rt xs), V.c (C.sl 3 kn kt ys)]])
theorem t59_0 (s : List UInt8) (rn : Option Bool) (rt : Bool) (xs : List (List C)) (kn : Option Bool) (kt : Bool) (ys : List (List C)) (d : Int) (i1 : Int) (i7 : Int) : (p59 dd).lts b59_0 (s59_0 s rn rt xs kn kt ys d i1 i7) = (Tr.br (decide (i7 < (↑ys.length : Int))) (Tr.br (decide (0 < i1)) (Tr.chk (decide (0 ≤ i7)) (Tr.chk true (Tr.chk (decide (i7.toNat < ys.length)) (Tr.chk (shOk [Sk.str, Sk.sl 5, Sk.sl 3] (ys.getD i7.toNat [])) (Tr.chk (isRows ((ys.getD i7.toNat []).tail.headD C.pnil).xs) (Tr.chk (isL ((ys.getD i7.toNat []).tail.tail.headD C.pnil).xs) (Tr.chk (decide (depL (decL ((ys.getD i7.toNat []).tail.tail.headD C.pnil).xs) < dd)) (Tr.chk (decide (0 ≤ i1)) (Tr.chk (decide (i1 ≤ 1000)) (Tr.chk (decide (-1000 ≤ IntKind.i64.wrap (d - 1))) (Tr.chk (decide (IntKind.i64.wrap (d - 1) ≤ 1000)) (Tr.chk (lensT (Nd.node ((ys.getD i7.toNat []).headD C.pnil).st (toRows ((ys.getD i7.toNat []).tail.headD C.pnil).xs) (decL ((ys.getD i7.toNat []).tail.tail.headD C.pnil).xs))) (Tr.leaf (R.s (s59_0 s rn rt xs kn kt ys d (leftT (Nd.node ((ys.getD i7.toNat []).headD C.pnil).st (toRows ((ys.getD i7.toNat []).tail.headD C.pnil).xs) (decL ((ys.getD i7.toNat []).tail.tail.headD C.pnil).xs)) i1 (IntKind.i64.wrap (d - 1))) (IntKind.i64.wrap (i7 + 1))))))))))))))))) (Tr.leaf (R.x (x59_0x0 s rn rt xs kn kt ys d i1 i7)))) (Tr.leaf (R.x (x59_0x0 s rn rt xs kn kt ys d i1 i7)))) := by kernel_rfl
theorem k59_0x0 (dd : Nat) (s : List UInt8) (rn : Option Bool) (rt : Bool) (xs : List (List C)) (kn : Option Bool) (kt : Bool) (ys : List (List C)) (d : Int) (i1 : Int) (i7 : Int) : (p59 dd).fkx 0 (x59_0x0 s rn rt xs kn kt ys d i1 i7) = (Tr.leaf (R.out [V.c (C.int IntKind.i64 i1)] [])) := by kernel_rfl
theorem t59 (s : List UInt8) (rn : Option Bool) (rt : Bool) (xs : List (List C)) (kn : Option Bool) (kt : Bool) (ys : List (List C)) (n : Int) (d : Int) : (p59 dd).ft ([V.agg [V.c (C.str s), V.c (C.sl 5 rn rt xs), V.c (C.sl 3 kn kt ys)], V.i n, V.i d]) ([]) = (Tr.chk true (Tr.br (decide (d < 1)) (Tr.leaf (R.out [V.c (C.int IntKind.i64 0)] [])) (Tr.br (decide (IntKind.i64.wrap (IntKind.i64.wrap (n - 1) - IntKind.i64.wrap ((↑s.length : Int).tdiv 50)) < 1)) (Tr.leaf (R.out [V.c (C.int IntKind.i64 0)] [])) (Tr.chk (isRows xs) (Tr.br (!shortR (toRows xs)) (Tr.leaf (R.out [V.c (C.int IntKind.i64 0)] [])) (Tr.ls 0 (s59_0 s rn rt xs kn kt ys d (IntKind.i64.wrap (IntKind.i64.wrap (n - 1) - IntKind.i64.wrap ((↑s.length : Int).tdiv 50))) (0)))))))) := by kernel_rfl
end Go.Proofs.YtbilmkcdhodenaaDoor

end

/-
  Radix trees: Check, Get; the reference's Right.
-/
section
namespace Go.Proofs.YtbilmkcdhodenaaDoor
open Go Go.Ev

theorem okR_node (s : List UInt8) (rs : List Row) (ks : List Nd) : okR (.node s rs ks) = (decide (s = []) && decide (rs = []) && okL ks 24 (-1)) := rfl
theorem f112 (s : List UInt8) (rn : Option Bool) (rt : Bool) (rs : List Row) (kn : Option Bool) (kt : Bool) (ks : List Nd) : call E 112 [.agg [.c (.str s), .c (.sl 5 rn rt (rows rs)), .c (.sl 3 kn kt (encL ks))]] [] = some ([V.i (checkT (.node s rs ks))], []) := by
  have hct : (ctOf [(147, s147 (depL ks + 1))]).ok E := ctOf_cons (s147_ok _) ctOf_nil
  refine call_of (E := E) (sh := sh) (ct := ctOf [(147, s147 (depL ks + 1))]) (na := 1) (m := 0) hct rfl rfl rfl rfl rfl rfl ?_
  show (p112 (depL ks + 1)).fd ((p112 (depL ks + 1)).ft _ _) = _
  rw [t112]
  simp only [nd_ok, nd_lab, nd_rows, nd_kids, encL_length, isL_enc, decL_enc, wrap_hd, hd_pos, ld_br, ld_chk', ld_leaf, fd_br, fd_chk', fd_leaf, decide_true, decide_eq_true_eq, if_true, Int.toNat_natCast, Int.natCast_nonneg, Int.ofNat_lt, Int.ofNat_le, Bool.false_eq_true, if_false, bne_iff_ne, beq_iff_eq, ne_eq, not_true_eq_false, not_false_eq_true, Bool.not_eq_true', decide_eq_false_iff_not, reduceCtorEq, rows_length, pcs_length, er_ok, er_ok', ep_ok, ep_ok', dr_er, dp_ep, isRows_rows, isPcs_pcs, toRows_rows, toPcs_pcs, rows_take, rows_drop, pcs_take, pcs_drop, rows_append, pcs_append, ints_length, isInts_ints, toInts_ints, ei_i, ei_ok, mk_headD, ints_take, ints_drop, ints_append, ints_snoc, ints_snoc', List.take_length, Nat.zero_add, Nat.le_refl, er_a, er_b, er_k, er_n, er_s, er_v, ep_a, ep_b, ep_hk, ep_hn, ep_hs, ep_wk, ep_wn, ep_ws, rows_length, show depL ks < depL ks + 1 by omega, checkT, okR_node]
  by_cases c1 : s = []
  · by_cases c2 : rs = []
    · have e24 : Int.toNat 24 = 24 := rfl
      simp only [c1, c2, List.length_nil, Int.natCast_zero, Int.lt_irrefl, if_false, not_true_eq_false, decide_true, Bool.true_and, e24]
      cases okL ks 24 (-1) <;> simp
    · have h : (0 : Int) < rs.length := by have := List.length_pos_iff.2 c2; omega
      simp only [c1, c2, h, not_true_eq_false, if_false, if_true, decide_false, Bool.and_false, Bool.false_and, Bool.false_eq_true]
      simp
  · simp [c1]
theorem s112_ok : CSpecOk E 112 s112 := by
  intro a h cs vals h' he hc
  unfold s112 at he
  split at he <;> simp only [Option.some.injEq, Prod.mk.injEq, reduceCtorEq] at he
  rename_i s rn rt xs kn kt ys
  obtain ⟨rfl, rfl, rfl⟩ := he
  simp only [allT, Bool.and_true, Bool.and_eq_true, decide_eq_true_eq] at hc
  obtain ⟨h1, h2⟩ := hc
  obtain ⟨rs, rfl⟩ := rows_ex h1
  obtain ⟨ks, rfl⟩ := isL_ex h2
  simp only [toRows_rows, decL_enc]
  exact f112 s rn rt rs kn kt ks
theorem s139_ok : CSpecOk E 139 s139 := by
  intro a h cs vals h' he hc
  unfold s139 at he
  split at he <;> simp only [Option.some.injEq, Prod.mk.injEq, reduceCtorEq] at he
  rename_i nl tt xs b
  obtain ⟨rfl, rfl, rfl⟩ := he
  simp only [allT, Bool.and_true, Bool.and_eq_true, decide_eq_true_eq] at hc
  obtain ⟨h1, h2, h3, h4, h5⟩ := hc
  obtain ⟨l, rfl⟩ := isL_ex h1
  simp only [decL_enc, encL_length] at *
  exact f139 l nl tt b h2 h3 h4 h5

/-! ## Get -/
theorem right_len4 {l : List Row} (h : right l = true) : l.length ≤ 64 := by
  simp only [right, Bool.and_eq_true, decide_eq_true_eq] at h; exact h.1
theorem okL_labs {l : List Nd} {n : Nat} {f : Int} (h : okL l n f = true) : labsOk l = true :=
  List.all_eq_true.2 fun t ht => by simpa using (okT_lab (okL_mem h t ht).1).1
theorem okT_right {t : Nd} {n : Nat} (h : okT t n = true) : right t.rows = true := by
  rw [okT_eq] at h
  simp only [Bool.and_eq_true] at h
  exact h.1.1.2
theorem getW_eq (t : Nd) (b : UInt8) (p : List UInt8) (n : Nat) (hk : okL t.kids n (-1) = true) :
    getW (p.length + 1) t (b :: p) = if hitK t.kids (b.toNat : Int) = true then (if begins (b :: p) (t.kids.getD (posK t.kids (b.toNat : Int)) default).lab = true then getW p.length (t.kids.getD (posK t.kids (b.toNat : Int)) default) ((b :: p).drop (t.kids.getD (posK t.kids (b.toNat : Int)) default).lab.length) else []) else [] := by
  rw [getW]
  rw [findK_pos (okL_rise hk).1 (fun t ht => (okT_lab (okL_mem hk t ht).1).1)]
  unfold hitK
  by_cases h1 : posK t.kids (b.toNat : Int) < t.kids.length
  · by_cases h2 : hdB (t.kids.getD (posK t.kids (b.toNat : Int)) default).lab = (b.toNat : Int)
    · rw [dif_pos ⟨h1, h2⟩]
      simp only [h1, h2, decide_true, Bool.and_self, if_true]
      simp only [getD_at' h1]
      by_cases h3 : begins (b :: p) t.kids[posK t.kids (b.toNat : Int)].lab = true
      · rw [if_pos h3, if_pos]
        obtain ⟨s, hs⟩ := begins_iff.1 h3
        exact ⟨s, hs.symm⟩
      · rw [if_neg h3, if_neg]
        rintro ⟨s, hs⟩
        exact h3 (begins_iff.2 ⟨s, hs.symm⟩)
    · rw [dif_neg (fun h => h2 h.2)]
      simp only [h1, h2, decide_true, decide_false, Bool.true_and, Bool.false_eq_true, if_false]
  · rw [dif_neg (fun h => h1 h.1)]
    simp only [h1, decide_false, Bool.false_and, Bool.false_eq_true, if_false]
theorem getW_fuel : ∀ (n m : Nat) (t : Nd) (p : List UInt8) (k : Nat), okL t.kids k (-1) = true → p.length ≤ n → p.length ≤ m → getW n t p = getW m t p
  | n, m, t, [], k, _, _, _ => by cases n <;> cases m <;> rfl
  | 0, m, t, b :: p, k, _, h, _ => by simp at h
  | n + 1, 0, t, b :: p, k, _, _, h => by simp at h
  | n + 1, m + 1, t, b :: p, k, hk, h1, h2 => by
    simp only [getW]
    cases hf : findK b t.kids with
    | none => rfl
    | some x =>
      have hm : x ∈ t.kids := List.mem_of_find?_eq_some hf
      have hx := okT_lab (okL_mem hk x hm).1
      simp only
      split
      · refine getW_fuel n m x _ _ hx.2.2 ?_ ?_ <;>
        · have := List.length_pos_iff.2 hx.1
          simp only [List.length_drop, List.length_cons] at h1 h2 ⊢; omega
      · rfl
theorem f102 (s : List UInt8) (rn : Option Bool) (rt : Bool) (rs : List Row) (kn : Option Bool) (kt : Bool) (ks : List Nd) (q : List UInt8) : call E 102 [.agg [.c (.str s), .c (.sl 5 rn rt (rows rs)), .c (.sl 3 kn kt (encL ks))], .c (.str q)] [] = some ([.c (.sl 5 none false (rows (getR (.node s rs ks) q)))], []) := by
  have hct : (ctOf [(112, s112), (139, s139), (94, s137), (140, s140)]).ok E := ctOf_cons s112_ok (ctOf_cons s139_ok (ctOf_cons s137_ok' (ctOf_cons s140_ok ctOf_nil)))
  refine call_of (E := E) (sh := sh) (ct := ctOf [(112, s112), (139, s139), (94, s137), (140, s140)]) (na := 2) (m := 0) hct rfl rfl rfl rfl rfl rfl ?_
  rw [t102]
  simp only [nd_ok, nd_lab, nd_rows, nd_kids, encL_length, isL_enc, decL_enc, wrap_hd, hd_pos, ld_br, ld_chk', ld_leaf, fd_br, fd_chk', fd_leaf, decide_true, decide_eq_true_eq, if_true, Int.toNat_natCast, Int.natCast_nonneg, Int.ofNat_lt, Int.ofNat_le, Bool.false_eq_true, if_false, bne_iff_ne, beq_iff_eq, ne_eq, not_true_eq_false, not_false_eq_true, Bool.not_eq_true', decide_eq_false_iff_not, reduceCtorEq, rows_length, pcs_length, er_ok, er_ok', ep_ok, ep_ok', dr_er, dp_ep, isRows_rows, isPcs_pcs, toRows_rows, toPcs_pcs, rows_take, rows_drop, pcs_take, pcs_drop, rows_append, pcs_append, ints_length, isInts_ints, toInts_ints, ei_i, ei_ok, mk_headD, ints_take, ints_drop, ints_append, ints_snoc, ints_snoc', List.take_length, Nat.zero_add, Nat.le_refl, er_a, er_b, er_k, er_n, er_s, er_v, ep_a, ep_b, ep_hk, ep_hn, ep_hs, ep_wk, ep_wn, ep_ws, checkT]
  by_cases ho : okR (.node s rs ks) = true
  case neg =>
    rw [if_neg ho, if_pos (by decide)]
    unfold getR
    rw [if_neg ho]; rfl
  rw [if_pos ho, if_neg (by decide)]
  have ho' := ho
  rw [okR_node] at ho'
  simp only [Bool.and_eq_true, decide_eq_true_eq] at ho'
  obtain ⟨⟨rfl, rfl⟩, hk⟩ := ho'
  have hg : getR (.node [] [] ks) q = getW q.length (.node [] [] ks) q := by unfold getR; rw [if_pos ho]
  rw [hg]
  refine fd_post hct (by kernel_rfl) rfl (loops_post hct (b := b102_0) (ι := Nd × (Option Bool × Bool × Option Bool × Bool) × List UInt8) (fun i => s102_0 i.1.lab i.2.1.1 i.2.1.2.1 (rows i.1.rows) i.2.1.2.2.1 i.2.1.2.2.2 (encL i.1.kids) i.2.2)
    (fun i => getW i.2.2.length i.1 i.2.2 = getW q.length (.node [] [] ks) q ∧ (∃ n, okL i.1.kids n (-1) = true) ∧ i.1.rows.length < 4294967296 ∧ (i.2.1.1 ≠ some true ∨ i.1.rows = []))
    (fun i => i.2.2.length) _ ?_ (.node [] [] ks, (rn, rt, kn, kt), q) ⟨rfl, ⟨24, hk⟩, by simp [Nd.rows], .inr rfl⟩)
  rintro ⟨t, ⟨rn, rt, kn, kt⟩, p⟩ ⟨h1, ⟨n, hn⟩, h3, h4⟩
  dsimp only at h1 hn h3 h4 ⊢
  rw [t102_0]
  cases p with
  | nil =>
    right
    refine ⟨x102_0x1 t.lab rn rt (rows t.rows) kn kt (encL t.kids) [], by simp, ?_, by simp only [nd_ok, nd_lab, nd_rows, nd_kids, encL_length, isL_enc, decL_enc, wrap_hd, hd_pos, ld_br, ld_chk', ld_leaf, fd_br, fd_chk', fd_leaf, decide_true, decide_eq_true_eq, if_true, Int.toNat_natCast, Int.natCast_nonneg, Int.ofNat_lt, Int.ofNat_le, Bool.false_eq_true, if_false, bne_iff_ne, beq_iff_eq, ne_eq, not_true_eq_false, not_false_eq_true, Bool.not_eq_true', decide_eq_false_iff_not, reduceCtorEq, rows_length, pcs_length, er_ok, er_ok', ep_ok, ep_ok', dr_er, dp_ep, isRows_rows, isPcs_pcs, toRows_rows, toPcs_pcs, rows_take, rows_drop, pcs_take, pcs_drop, rows_append, pcs_append, ints_length, isInts_ints, toInts_ints, ei_i, ei_ok, mk_headD, ints_take, ints_drop, ints_append, ints_snoc, ints_snoc', List.take_length, Nat.zero_add, Nat.le_refl, er_a, er_b, er_k, er_n, er_s, er_v, ep_a, ep_b, ep_hk, ep_hn, ep_hs, ep_wk, ep_wn, ep_ws]; simp⟩
    have e1 : getW 0 t [] = t.rows := rfl
    rw [List.length_nil, e1] at h1
    have h4' : rn ≠ some true ∨ rows t.rows = [] := by
      rcases h4 with h | h
      · exact .inl h
      · right; rw [h]; rfl
    rw [k102_0x1]
    simp only [ld_br, ld_chk', ld_leaf, fd_br, fd_chk', fd_leaf, decide_true, decide_eq_true_eq, if_true, Int.toNat_natCast, Int.natCast_nonneg, Int.ofNat_lt, Int.ofNat_le, Bool.false_eq_true, if_false, bne_iff_ne, beq_iff_eq, ne_eq, not_true_eq_false, not_false_eq_true, Bool.not_eq_true', decide_eq_false_iff_not, reduceCtorEq, rows_length, pcs_length, er_ok, er_ok', ep_ok, ep_ok', dr_er, dp_ep, isRows_rows, isPcs_pcs, toRows_rows, toPcs_pcs, rows_take, rows_drop, pcs_take, pcs_drop, rows_append, pcs_append, ints_length, isInts_ints, toInts_ints, ei_i, ei_ok, mk_headD, ints_take, ints_drop, ints_append, ints_snoc, ints_snoc', List.take_length, Nat.zero_add, Nat.le_refl, er_a, er_b, er_k, er_n, er_s, er_v, ep_a, ep_b, ep_hk, ep_hn, ep_hs, ep_wk, ep_wn, ep_ws, h3]
    rw [if_pos h4', h1]
  | cons b p =>
    have hb : (((b :: p).getD (Int.toNat 0) 0).toNat : Int) = (b.toNat : Int) := rfl
    have hb2 : (b.toNat : Int) ≤ 255 := by have := b.toNat_lt; omega
    have hlen := okL_len hn (by omega)
    rw [List.length_cons, getW_eq t b p n hn] at h1
    have hne : b :: p ≠ [] := by simp
    have hq : (b :: p == []) = false := rfl
    simp only [nd_ok, nd_lab, nd_rows, nd_kids, encL_length, isL_enc, decL_enc, wrap_hd, hd_pos, ld_br, ld_chk', ld_leaf, fd_br, fd_chk', fd_leaf, decide_true, decide_eq_true_eq, if_true, Int.toNat_natCast, Int.natCast_nonneg, Int.ofNat_lt, Int.ofNat_le, Bool.false_eq_true, if_false, bne_iff_ne, beq_iff_eq, ne_eq, not_true_eq_false, not_false_eq_true, Bool.not_eq_true', decide_eq_false_iff_not, reduceCtorEq, rows_length, pcs_length, er_ok, er_ok', ep_ok, ep_ok', dr_er, dp_ep, isRows_rows, isPcs_pcs, toRows_rows, toPcs_pcs, rows_take, rows_drop, pcs_take, pcs_drop, rows_append, pcs_append, ints_length, isInts_ints, toInts_ints, ei_i, ei_ok, mk_headD, ints_take, ints_drop, ints_append, ints_snoc, ints_snoc', List.take_length, Nat.zero_add, Nat.le_refl, er_a, er_b, er_k, er_n, er_s, er_v, ep_a, ep_b, ep_hk, ep_hn, ep_hs, ep_wk, ep_wn, ep_ws, hq, if_true, hb, hb2, okL_labs hn, hne, show t.kids.length < 4294967296 by omega, Int.natCast_nonneg]
    by_cases g1 : hitK t.kids (b.toNat : Int) = true
    · have hp : posK t.kids (b.toNat : Int) < t.kids.length := by
        unfold hitK at g1
        simp only [Bool.and_eq_true, decide_eq_true_eq] at g1
        exact g1.1
      rw [if_pos g1, getD_at' hp] at h1
      simp only [g1, Bool.true_eq_false, if_false, hp, encL_getD hp, nd_ok, nd_lab, nd_rows, nd_kids, encL_length, isL_enc, decL_enc, wrap_hd, hd_pos, ld_br, ld_chk', ld_leaf, fd_br, fd_chk', fd_leaf, decide_true, decide_eq_true_eq, if_true, Int.toNat_natCast, Int.natCast_nonneg, Int.ofNat_lt, Int.ofNat_le, Bool.false_eq_true, if_false, bne_iff_ne, beq_iff_eq, ne_eq, not_true_eq_false, not_false_eq_true, Bool.not_eq_true', decide_eq_false_iff_not, reduceCtorEq, rows_length, pcs_length, er_ok, er_ok', ep_ok, ep_ok', dr_er, dp_ep, isRows_rows, isPcs_pcs, toRows_rows, toPcs_pcs, rows_take, rows_drop, pcs_take, pcs_drop, rows_append, pcs_append, ints_length, isInts_ints, toInts_ints, ei_i, ei_ok, mk_headD, ints_take, ints_drop, ints_append, ints_snoc, ints_snoc', List.take_length, Nat.zero_add, Nat.le_refl, er_a, er_b, er_k, er_n, er_s, er_v, ep_a, ep_b, ep_hk, ep_hn, ep_hs, ep_wk, ep_wn, ep_ws]
      by_cases g2 : begins (b :: p) t.kids[posK t.kids (b.toNat : Int)].lab = true
      · rw [if_pos g2] at h1
        have hk1 := (okL_mem hn _ (List.getElem_mem hp)).1
        have hx := okT_lab hk1
        have hle : t.kids[posK t.kids (b.toNat : Int)].lab.length ≤ (b :: p).length := by
          obtain ⟨z, hz⟩ := begins_iff.1 g2
          rw [hz]; simp
        have hpos := List.length_pos_iff.2 hx.1
        left
        refine ⟨(t.kids[posK t.kids (b.toNat : Int)], (none, false, none, false), (b :: p).drop t.kids[posK t.kids (b.toNat : Int)].lab.length), ⟨?_, ⟨_, hx.2.2⟩, ?_, .inl (by simp)⟩, ?_, ?_⟩
        · rw [← h1]
          exact getW_fuel _ _ _ _ _ hx.2.2 (Nat.le_refl _) (by simp only [List.length_drop, List.length_cons]; omega)
        · have := right_len4 (okT_right hk1); dsimp only; omega
        · simp only [List.length_drop, List.length_cons]; omega
        · simp only [g2, Bool.true_eq_false, if_false, hle, if_true, List.take_length, Nat.le_refl]
      · rw [if_neg g2] at h1
        rw [Bool.not_eq_true] at g2
        right
        exact ⟨x102_0x0 t.lab rn rt (rows t.rows) kn kt (encL t.kids), by simp, by rw [k102_0x0, fd_leaf, ← h1]; rfl, by simp only [g2, if_true]⟩
    · rw [if_neg g1] at h1
      rw [Bool.not_eq_true] at g1
      right
      exact ⟨x102_0x0 t.lab rn rt (rows t.rows) kn kt (encL t.kids), by simp, by rw [k102_0x0, fd_leaf, ← h1]; rfl, by simp only [g1, if_true]⟩
def s102 : CSpec := fun a h => match a, h with
  | [.agg [.c (.str s), .c (.sl 5 rn rt xs), .c (.sl 3 kn kt ys)], .c (.str q)], [] => some ([isRows xs, isL ys], [.c (.sl 5 none false (rows (getR (.node s (toRows xs) (decL ys)) q)))], [])
  | _, _ => none
theorem s102_ok : CSpecOk E 102 s102 := by
  intro a h cs vals h' he hc
  unfold s102 at he
  split at he <;> simp only [Option.some.injEq, Prod.mk.injEq, reduceCtorEq] at he
  rename_i s rn rt xs kn kt ys q
  obtain ⟨rfl, rfl, rfl⟩ := he
  simp only [allT, Bool.and_true, Bool.and_eq_true, decide_eq_true_eq] at hc
  obtain ⟨h1, h2⟩ := hc
  obtain ⟨rs, rfl⟩ := rows_ex h1
  obtain ⟨ks, rfl⟩ := isL_ex h2
  simp only [toRows_rows, decL_enc]
  exact f102 s rn rt rs kn kt ks q

/-! ## the reference's Right -/
theorem okT_node (s : List UInt8) (rs : List Row) (ks : List Nd) (n : Nat) : okT (.node s rs ks) n = (decide (s ≠ []) && decide (s.length ≤ n) && right rs && (decide (rs ≠ []) || decide (2 ≤ ks.length)) && okL ks (n - s.length) (-1)) := okT_eq _ _
theorem s90_ok : CSpecOk E 90 s90 := by
  intro a h cs vals h' he hc
  unfold s90 at he
  split at he <;> simp only [Option.some.injEq, Prod.mk.injEq, reduceCtorEq] at he
  rename_i nl tt xs
  obtain ⟨rfl, rfl, rfl⟩ := he
  simp only [allT, Bool.and_true] at hc
  obtain ⟨l, rfl⟩ := rows_ex hc
  rw [toRows_rows]
  exact f90 l nl tt
theorem f199 (d : Nat) (ih : CSpecOk E 178 (s178 d)) (s : List UInt8) (rs : List Row) (ks : List Nd) (n : Int) (hd : depL ks < d) (h0 : 0 ≤ n) (h1 : n < 1000000) : call E 199 [.agg [.c (.str s), .c (.sl 5 none false (rows rs)), .c (.sl 3 none false (encL ks))], V.i n] [] = some ([V.b (okT (.node s rs ks) n.toNat)], []) := by
  have hct : (ctOf [(90, s90), (178, s178 d)]).ok E := ctOf_cons s90_ok (ctOf_cons ih ctOf_nil)
  refine call_of (E := E) (sh := sh) (ct := ctOf [(90, s90), (178, s178 d)]) (na := 2) (m := 0) hct rfl rfl rfl rfl rfl rfl ?_
  show (p199 d).fd ((p199 d).ft _ _) = _
  rw [t199]
  simp only [nd_ok, nd_lab, nd_rows, nd_kids, encL_length, isL_enc, decL_enc, wrap_hd, hd_pos, ld_br, ld_chk', ld_leaf, fd_br, fd_chk', fd_leaf, decide_true, decide_eq_true_eq, if_true, Int.toNat_natCast, Int.natCast_nonneg, Int.ofNat_lt, Int.ofNat_le, Bool.false_eq_true, if_false, bne_iff_ne, beq_iff_eq, ne_eq, not_true_eq_false, not_false_eq_true, Bool.not_eq_true', decide_eq_false_iff_not, reduceCtorEq, rows_length, pcs_length, er_ok, er_ok', ep_ok, ep_ok', dr_er, dp_ep, isRows_rows, isPcs_pcs, toRows_rows, toPcs_pcs, rows_take, rows_drop, pcs_take, pcs_drop, rows_append, pcs_append, ints_length, isInts_ints, toInts_ints, ei_i, ei_ok, mk_headD, ints_take, ints_drop, ints_append, ints_snoc, ints_snoc', List.take_length, Nat.zero_add, Nat.le_refl, er_a, er_b, er_k, er_n, er_s, er_v, ep_a, ep_b, ep_hk, ep_hn, ep_hs, ep_wk, ep_wn, ep_ws, rows_length, nil_len, hd, okT_node]
  by_cases c1 : s = []
  · simp [c1]
  rw [if_neg c1]
  by_cases c2 : n < s.length
  · have : ¬ s.length ≤ n.toNat := by omega
    simp [c2, this]
  rw [if_neg c2]
  have c2' : s.length ≤ n.toNat := by omega
  by_cases c3 : right rs = false
  · simp [c3]
  rw [if_neg c3]
  rw [Bool.not_eq_false] at c3
  have w1 : IntKind.wrap .i64 (n - (s.length : Int)) = ((n.toNat - s.length : Nat) : Int) := by rw [wrap_same (by omega) (by omega)]; omega
  have w2 : ((n.toNat - s.length : Nat) : Int) < 1000000 := by omega
  simp only [w1, w2, Int.natCast_nonneg, Int.toNat_natCast, if_true]
  by_cases c5 : rs = []
  · by_cases c6 : (ks.length : Int) < 2
    · have : ¬ 2 ≤ ks.length := by omega
      simp [c5, c6, this]
    · have : 2 ≤ ks.length := by omega
      rw [if_pos c5, if_neg c6]
      simp [c1, c2', c3, this]
  · rw [if_neg c5]
    simp [c1, c2', c3, c5]
def prevK (l : List Nd) (k : Nat) : Int := if k = 0 then -1 else hdB (l.getD (k - 1) default).lab
theorem prevK_succ {l : List Nd} {k : Nat} (h : k < l.length) : prevK l (k + 1) = hdB l[k].lab := by simp only [prevK, Nat.add_sub_cancel]; rw [if_neg (by omega), getD_at' h]
theorem nd_node (t : Nd) : Nd.node t.lab t.rows t.kids = t := Nd.eta t
theorem byte_lab (s : List UInt8) : (((s.getD (Int.toNat 0) 0).toNat : Nat) : Int) = hdB s := hd_getD s
theorem f178 (d : Nat) (ih : CSpecOk E 199 (s199 d)) (s : List UInt8) (rn : Option Bool) (rt : Bool) (rs : List Row) (kn : Option Bool) (kt : Bool) (ks : List Nd) (n : Int) (hd : depL ks < d) (h0 : 0 ≤ n) (h1 : n < 1000000) : call E 178 [.agg [.c (.str s), .c (.sl 5 rn rt (rows rs)), .c (.sl 3 kn kt (encL ks))], V.i n] [] = some ([V.b (okL ks n.toNat (-1))], []) := by
  have hct : (ctOf [(199, s199 d)]).ok E := ctOf_cons ih ctOf_nil
  refine call_of (E := E) (sh := sh) (ct := ctOf [(199, s199 d)]) (na := 2) (m := 0) hct rfl rfl rfl rfl rfl rfl ?_
  show (p178 d).fd ((p178 d).ft _ _) = _
  rw [t178]
  simp only [nd_ok, nd_lab, nd_rows, nd_kids, encL_length, isL_enc, decL_enc, wrap_hd, hd_pos, ld_br, ld_chk', ld_leaf, fd_br, fd_chk', fd_leaf, decide_true, decide_eq_true_eq, if_true, Int.toNat_natCast, Int.natCast_nonneg, Int.ofNat_lt, Int.ofNat_le, Bool.false_eq_true, if_false, bne_iff_ne, beq_iff_eq, ne_eq, not_true_eq_false, not_false_eq_true, Bool.not_eq_true', decide_eq_false_iff_not, reduceCtorEq, rows_length, pcs_length, er_ok, er_ok', ep_ok, ep_ok', dr_er, dp_ep, isRows_rows, isPcs_pcs, toRows_rows, toPcs_pcs, rows_take, rows_drop, pcs_take, pcs_drop, rows_append, pcs_append, ints_length, isInts_ints, toInts_ints, ei_i, ei_ok, mk_headD, ints_take, ints_drop, ints_append, ints_snoc, ints_snoc', List.take_length, Nat.zero_add, Nat.le_refl, er_a, er_b, er_k, er_n, er_s, er_v, ep_a, ep_b, ep_hk, ep_hn, ep_hs, ep_wk, ep_wn, ep_ws]
  by_cases c0 : (256 : Int) < ks.length
  · rw [if_pos c0]
    have : okL ks n.toNat (-1) = false := by
      cases h : okL ks n.toNat (-1) with
      | false => rfl
      | true => have := okL_len h (by omega); omega
    rw [this]
  rw [if_neg c0]
  refine fd_post hct (by kernel_rfl) rfl (list_post (p := p178 d) hct (b := b178_0) ks.length (fun k (_ : Unit) => s178_0 s rn rt (rows rs) kn kt (encL ks) n k) (fun k _ => okL (ks.drop k) n.toNat (prevK ks k) = okL ks n.toNat (-1) ∧ (0 < k → (ks.getD (k - 1) default).lab ≠ [])) _ ?_ ?_ 0 (Nat.zero_le _) () ⟨rfl, fun h => absurd h (by omega)⟩)
  · rintro k _ hk ⟨hi, hp⟩
    rw [List.drop_eq_getElem_cons hk, okL_cons] at hi
    have hkid : depL ks[k].kids + 1 < d + 1 := by have := depL_kid (List.getElem_mem hk); omega
    have hkid2 : depL ks[k].kids + 1 < d := by have := depL_kid (List.getElem_mem hk); omega
    have ex0 : okL ks n.toNat (-1) = false → (p178 d).fd ((p178 d).fkx 0 (x178_0x0 s rn rt (rows rs) kn kt (encL ks))) = some (.out [V.b (okL ks n.toNat (-1))] []) := fun h => by rw [k178_0x0, fd_leaf, h]
    rw [t178_0]
    simp only [nd_ok, nd_lab, nd_rows, nd_kids, encL_length, isL_enc, decL_enc, wrap_hd, hd_pos, ld_br, ld_chk', ld_leaf, fd_br, fd_chk', fd_leaf, decide_true, decide_eq_true_eq, if_true, Int.toNat_natCast, Int.natCast_nonneg, Int.ofNat_lt, Int.ofNat_le, Bool.false_eq_true, if_false, bne_iff_ne, beq_iff_eq, ne_eq, not_true_eq_false, not_false_eq_true, Bool.not_eq_true', decide_eq_false_iff_not, reduceCtorEq, rows_length, pcs_length, er_ok, er_ok', ep_ok, ep_ok', dr_er, dp_ep, isRows_rows, isPcs_pcs, toRows_rows, toPcs_pcs, rows_take, rows_drop, pcs_take, pcs_drop, rows_append, pcs_append, ints_length, isInts_ints, toInts_ints, ei_i, ei_ok, mk_headD, ints_take, ints_drop, ints_append, ints_snoc, ints_snoc', List.take_length, Nat.zero_add, Nat.le_refl, er_a, er_b, er_k, er_n, er_s, er_v, ep_a, ep_b, ep_hk, ep_hn, ep_hs, ep_wk, ep_wn, ep_ws, hk, encL_getD hk, wrap_succ (show k < 9223372036854775807 by omega), nd_node, hkid2, h0, h1]
    by_cases c1 : okT ks[k] n.toNat = false
    · exact .inr ⟨x178_0x0 s rn rt (rows rs) kn kt (encL ks), by simp, ex0 (by rw [← hi, c1]; simp), by simp only [c1, if_true]⟩
    rw [Bool.not_eq_false] at c1
    have hl := (okT_lab c1).1
    rw [c1, Bool.true_and] at hi
    cases k with
    | zero =>
      have : decide (prevK ks 0 < hdB ks[0].lab) = true := by have := hdB_lt ks[0].lab; simp [prevK]; omega
      rw [this, Bool.true_and] at hi
      exact .inl ⟨(), ⟨by rw [prevK_succ hk]; exact hi, fun _ => by rw [getD_at' (by simpa using hk)]; simpa using hl⟩, by simp [c1]⟩
    | succ k =>
      have hk' : k < ks.length := by omega
      have hp' := hp (by omega)
      rw [Nat.add_sub_cancel, getD_at' hk'] at hp'
      rw [prevK_succ hk'] at hi
      simp only [c1, Bool.true_eq_false, if_false, wrap_pred (show 0 < k + 1 by omega) (show k + 1 < 9223372036854775807 by omega), Nat.add_sub_cancel, nd_ok, nd_lab, nd_rows, nd_kids, encL_length, isL_enc, decL_enc, wrap_hd, hd_pos, ld_br, ld_chk', ld_leaf, fd_br, fd_chk', fd_leaf, decide_true, decide_eq_true_eq, if_true, Int.toNat_natCast, Int.natCast_nonneg, Int.ofNat_lt, Int.ofNat_le, Bool.false_eq_true, if_false, bne_iff_ne, beq_iff_eq, ne_eq, not_true_eq_false, not_false_eq_true, Bool.not_eq_true', decide_eq_false_iff_not, reduceCtorEq, rows_length, pcs_length, er_ok, er_ok', ep_ok, ep_ok', dr_er, dp_ep, isRows_rows, isPcs_pcs, toRows_rows, toPcs_pcs, rows_take, rows_drop, pcs_take, pcs_drop, rows_append, pcs_append, ints_length, isInts_ints, toInts_ints, ei_i, ei_ok, mk_headD, ints_take, ints_drop, ints_append, ints_snoc, ints_snoc', List.take_length, Nat.zero_add, Nat.le_refl, er_a, er_b, er_k, er_n, er_s, er_v, ep_a, ep_b, ep_hk, ep_hn, ep_hs, ep_wk, ep_wn, ep_ws, hk', encL_getD hk', show (0 : Int) < ((k + 1 : Nat) : Int) by omega, hl, hp', byte_lab]
      have z1 := byte_lab ks[k + 1].lab
      have z2 := byte_lab ks[k].lab
      by_cases c2 : (ks[k + 1].lab.getD (Int.toNat 0) 0).toNat ≤ (ks[k].lab.getD (Int.toNat 0) 0).toNat
      · exact .inr ⟨x178_0x0 s rn rt (rows rs) kn kt (encL ks), by simp, ex0 (by rw [← hi]; simp [show ¬ hdB ks[k].lab < hdB ks[k + 1].lab by omega]), by rw [if_pos c2]⟩
      · have : decide (hdB ks[k].lab < hdB ks[k + 1].lab) = true := by simp; omega
        rw [this, Bool.true_and] at hi
        exact .inl ⟨(), ⟨by rw [prevK_succ hk]; exact hi, fun _ => by show (ks.getD (k + 1) default).lab ≠ []; rw [getD_at' hk]; exact hl⟩, by rw [if_neg c2]⟩
  · rintro _ ⟨hi, hp⟩
    rw [List.drop_length, okL] at hi
    rw [t178_0]
    exact ⟨x178_0x1 s rn rt (rows rs) kn kt (encL ks) n ks.length, by simp, by rw [k178_0x1, fd_leaf, ← hi], by simp only [nd_ok, nd_lab, nd_rows, nd_kids, encL_length, isL_enc, decL_enc, wrap_hd, hd_pos, ld_br, ld_chk', ld_leaf, fd_br, fd_chk', fd_leaf, decide_true, decide_eq_true_eq, if_true, Int.toNat_natCast, Int.natCast_nonneg, Int.ofNat_lt, Int.ofNat_le, Bool.false_eq_true, if_false, bne_iff_ne, beq_iff_eq, ne_eq, not_true_eq_false, not_false_eq_true, Bool.not_eq_true', decide_eq_false_iff_not, reduceCtorEq, rows_length, pcs_length, er_ok, er_ok', ep_ok, ep_ok', dr_er, dp_ep, isRows_rows, isPcs_pcs, toRows_rows, toPcs_pcs, rows_take, rows_drop, pcs_take, pcs_drop, rows_append, pcs_append, ints_length, isInts_ints, toInts_ints, ei_i, ei_ok, mk_headD, ints_take, ints_drop, ints_append, ints_snoc, ints_snoc', List.take_length, Nat.zero_add, Nat.le_refl, er_a, er_b, er_k, er_n, er_s, er_v, ep_a, ep_b, ep_hk, ep_hn, ep_hs, ep_wk, ep_wn, ep_ws, Nat.lt_irrefl]⟩
theorem s199_of (d : Nat) (ih : CSpecOk E 178 (s178 d)) : CSpecOk E 199 (s199 (d + 1)) := by
  intro a h cs vals h' he hc
  unfold s199 at he
  split at he <;> simp only [Option.some.injEq, Prod.mk.injEq, reduceCtorEq] at he
  rename_i s xs ys n
  obtain ⟨rfl, rfl, rfl⟩ := he
  simp only [allT, Bool.and_true, Bool.and_eq_true, decide_eq_true_eq] at hc
  obtain ⟨h1, h2, h3, h4, h5⟩ := hc
  obtain ⟨rs, rfl⟩ := rows_ex h1
  obtain ⟨ks, rfl⟩ := isL_ex h2
  simp only [toRows_rows, decL_enc] at *
  exact f199 d ih s rs ks n (by omega) h4 h5
theorem s178_of (d : Nat) (ih : CSpecOk E 199 (s199 d)) : CSpecOk E 178 (s178 d) := by
  intro a h cs vals h' he hc
  unfold s178 at he
  split at he <;> simp only [Option.some.injEq, Prod.mk.injEq, reduceCtorEq] at he
  rename_i s rn rt xs kn kt ys n
  obtain ⟨rfl, rfl, rfl⟩ := he
  simp only [allT, Bool.and_true, Bool.and_eq_true, decide_eq_true_eq] at hc
  obtain ⟨h1, h2, h3, h4, h5⟩ := hc
  obtain ⟨rs, rfl⟩ := rows_ex h1
  obtain ⟨ks, rfl⟩ := isL_ex h2
  simp only [toRows_rows, decL_enc] at *
  exact f178 d ih s rn rt rs kn kt ks n h3 h4 h5
theorem s199_ok : ∀ d, CSpecOk E 199 (s199 d)
  | 0 => by
    intro a h cs vals h' he hc
    unfold s199 at he
    split at he <;> simp only [Option.some.injEq, Prod.mk.injEq, reduceCtorEq] at he
    obtain ⟨rfl, rfl, rfl⟩ := he
    simp [allT] at hc
  | d + 1 => s199_of d (s178_of d (s199_ok d))
theorem s178_ok (d : Nat) : CSpecOk E 178 (s178 d) := s178_of d (s199_ok d)
theorem f142 (s : List UInt8) (rn : Option Bool) (rt : Bool) (rs : List Row) (kn : Option Bool) (kt : Bool) (ks : List Nd) : call E 142 [.agg [.c (.str s), .c (.sl 5 rn rt (rows rs)), .c (.sl 3 kn kt (encL ks))]] [] = some ([V.b (okR (.node s rs ks))], []) := by
  have hct : (ctOf [(178, s178 (depL ks + 1))]).ok E := ctOf_cons (s178_ok _) ctOf_nil
  refine call_of (E := E) (sh := sh) (ct := ctOf [(178, s178 (depL ks + 1))]) (na := 1) (m := 0) hct rfl rfl rfl rfl rfl rfl ?_
  show (p142 (depL ks + 1)).fd ((p142 (depL ks + 1)).ft _ _) = _
  rw [t142]
  simp only [nd_ok, nd_lab, nd_rows, nd_kids, encL_length, isL_enc, decL_enc, wrap_hd, hd_pos, ld_br, ld_chk', ld_leaf, fd_br, fd_chk', fd_leaf, decide_true, decide_eq_true_eq, if_true, Int.toNat_natCast, Int.natCast_nonneg, Int.ofNat_lt, Int.ofNat_le, Bool.false_eq_true, if_false, bne_iff_ne, beq_iff_eq, ne_eq, not_true_eq_false, not_false_eq_true, Bool.not_eq_true', decide_eq_false_iff_not, reduceCtorEq, rows_length, pcs_length, er_ok, er_ok', ep_ok, ep_ok', dr_er, dp_ep, isRows_rows, isPcs_pcs, toRows_rows, toPcs_pcs, rows_take, rows_drop, pcs_take, pcs_drop, rows_append, pcs_append, ints_length, isInts_ints, toInts_ints, ei_i, ei_ok, mk_headD, ints_take, ints_drop, ints_append, ints_snoc, ints_snoc', List.take_length, Nat.zero_add, Nat.le_refl, er_a, er_b, er_k, er_n, er_s, er_v, ep_a, ep_b, ep_hk, ep_hn, ep_hs, ep_wk, ep_wn, ep_ws, rows_length, nil_len, show depL ks < depL ks + 1 by omega, okR_node]
  have e24 : Int.toNat 24 = 24 := rfl
  by_cases c1 : s = []
  · by_cases c2 : rs = []
    · simp [c1, c2, e24]
    · simp [c1, c2]
  · simp [c1]
theorem s142_ok : CSpecOk E 142 s142 := by
  intro a h cs vals h' he hc
  unfold s142 at he
  split at he <;> simp only [Option.some.injEq, Prod.mk.injEq, reduceCtorEq] at he
  rename_i s rn rt xs kn kt ys
  obtain ⟨rfl, rfl, rfl⟩ := he
  simp only [allT, Bool.and_true, Bool.and_eq_true, decide_eq_true_eq] at hc
  obtain ⟨h1, h2⟩ := hc
  obtain ⟨rs, rfl⟩ := rows_ex h1
  obtain ⟨ks, rfl⟩ := isL_ex h2
  simp only [toRows_rows, decL_enc]
  exact f142 s rn rt rs kn kt ks
end Go.Proofs.YtbilmkcdhodenaaDoor

end

/-
  Radix trees: the reference's entries and Get; how many nodes are left.
-/
section
namespace Go.Proofs.YtbilmkcdhodenaaDoor
open Go Go.Ev

/-! ## entries -/
theorem pre_pre (a b : List UInt8) (l : List Ent) : pre a (pre b l) = pre (a ++ b) l := by simp [pre, Function.comp_def]
theorem pre_app (a : List UInt8) (l m : List Ent) : pre a (l ++ m) = pre a l ++ pre a m := by simp [pre]
@[simp] theorem pre_length (a : List UInt8) (l : List Ent) : (pre a l).length = l.length := by simp [pre]
theorem pre_nil (l : List Ent) : pre [] l = l := by simp [pre]
@[simp] theorem ents_length (l : List Ent) : (ents l).length = l.length := by simp [ents]
theorem ents_app (l m : List Ent) : ents l ++ ents m = ents (l ++ m) := by simp [ents]
theorem entL_app (l m : List Nd) : entL (l ++ m) = entL l ++ entL m := by
  induction l with
  | nil => rfl
  | cons t r ih => rw [List.cons_append, entL, entL, ih, List.append_assoc]
theorem entL_take {l : List Nd} {k : Nat} (h : k < l.length) : entL (l.take (k + 1)) = entL (l.take k) ++ entT l[k] := by
  rw [List.take_succ, List.getElem?_eq_getElem h, entL_app]; simp [entL]
theorem entL_take_le (l : List Nd) (k : Nat) : (entL (l.take k)).length ≤ (entL l).length := by
  conv => rhs; rw [← List.take_append_drop k l, entL_app, List.length_append]
  omega
theorem entT_mem_len : ∀ {l : List Nd} {t : Nd}, t ∈ l → (entT t).length ≤ (entL l).length
  | x :: r, t, h => by
    rw [entL, List.length_append]
    rcases List.mem_cons.1 h with rfl | h
    · omega
    · have := entT_mem_len h; omega
def ownE (q : List UInt8) (rs : List Row) : List Ent := if rs = [] then [] else [(q, rs)]
theorem entT_node (q s : List UInt8) (rs : List Row) (ks : List Nd) : pre q (entT (.node s rs ks)) = ownE (q ++ s) rs ++ pre (q ++ s) (entL ks) := by
  have e : entT (.node s rs ks) = ownE s rs ++ pre s (entL ks) := by rw [entT_eq]; rfl
  rw [e, pre_app, pre_pre]
  congr 1
  unfold ownE
  split <;> rfl
theorem f179 (d : Nat) (ih : CSpecOk E 179 (s179 d)) (s : List UInt8) (rn : Option Bool) (rt : Bool) (rs : List Row) (kn : Option Bool) (kt : Bool) (ks : List Nd) (q : List UInt8) (hd : depL ks < d + 1) (hq : q.length + s.length ≤ 24) (hok : okL ks (24 - (q.length + s.length)) (-1) = true) (hn : (entT (.node s rs ks)).length < 4294967290) (hf : rn = none ∧ rt = false ∨ rs = []) :
    call E 179 [.agg [.c (.str s), .c (.sl 5 rn rt (rows rs)), .c (.sl 3 kn kt (encL ks))], .c (.str q)] [] = some ([.c (.sl 2 none false (ents (pre q (entT (.node s rs ks)))))], []) := by
  have hct : (ctOf [(179, s179 d)]).ok E := ctOf_cons ih ctOf_nil
  have hlen : (ownE (q ++ s) rs ++ pre (q ++ s) (entL ks)).length < 4294967290 := by rw [← entT_node, pre_length]; exact hn
  refine call_of (E := E) (sh := sh) (ct := ctOf [(179, s179 d)]) (na := 2) (m := 0) hct rfl rfl rfl rfl rfl rfl ?_
  show (p179 d).fd ((p179 d).ft _ _) = _
  rw [t179, entT_node]
  simp only [nd_ok, nd_lab, nd_rows, nd_kids, encL_length, isL_enc, decL_enc, wrap_hd, hd_pos, ld_br, ld_chk', ld_leaf, fd_br, fd_chk', fd_leaf, decide_true, decide_eq_true_eq, if_true, Int.toNat_natCast, Int.natCast_nonneg, Int.ofNat_lt, Int.ofNat_le, Bool.false_eq_true, if_false, bne_iff_ne, beq_iff_eq, ne_eq, not_true_eq_false, not_false_eq_true, Bool.not_eq_true', decide_eq_false_iff_not, reduceCtorEq, rows_length, pcs_length, er_ok, er_ok', ep_ok, ep_ok', dr_er, dp_ep, isRows_rows, isPcs_pcs, toRows_rows, toPcs_pcs, rows_take, rows_drop, pcs_take, pcs_drop, rows_append, pcs_append, ints_length, isInts_ints, toInts_ints, ei_i, ei_ok, mk_headD, ints_take, ints_drop, ints_append, ints_snoc, ints_snoc', List.take_length, Nat.zero_add, Nat.le_refl, er_a, er_b, er_k, er_n, er_s, er_v, ep_a, ep_b, ep_hk, ep_hn, ep_hs, ep_wk, ep_wn, ep_ws, rows_length, show q.length + s.length < 4294967296 by omega]
  have key : ∀ s0, s0 = s179_0 s rn rt (rows rs) kn kt (encL ks) (q ++ s) (ownE (q ++ s) rs).length 0 (ents (ownE (q ++ s) rs)) → (p179 d).fd (Tr.ls 0 s0) = some (R.out [.c (.sl 2 none false (ents (ownE (q ++ s) rs ++ pre (q ++ s) (entL ks))))] []) := by
    rintro _ rfl
    refine fd_post hct (by kernel_rfl) rfl (list_post (p := p179 d) hct (b := b179_0) ks.length (fun k (acc : List Ent) => s179_0 s rn rt (rows rs) kn kt (encL ks) (q ++ s) acc.length k (ents acc)) (fun k acc => acc = ownE (q ++ s) rs ++ pre (q ++ s) (entL (ks.take k))) _ ?_ ?_ 0 (Nat.zero_le _) (ownE (q ++ s) rs) (by simp [entL, pre]))
    · rintro k acc hk hacc
      have hT := okL_mem hok ks[k] (List.getElem_mem hk)
      have hl := okT_lab hT.1
      have hkid : depL ks[k].kids < d := by have := depL_kid (List.getElem_mem hk); omega
      have hkl := okL_len hok (by omega)
      have h1 : q.length + s.length + ks[k].lab.length ≤ 24 := by omega
      have h2 : okL ks[k].kids (24 - (q.length + s.length + ks[k].lab.length)) (-1) = true := by
        have := hl.2.2; rwa [Nat.sub_sub] at this
      have h3 : (entT ks[k]).length < 4294967290 := by
        have := entT_mem_len (List.getElem_mem hk); rw [List.length_append, pre_length] at hlen; omega
      have hnx : acc ++ pre (q ++ s) (entT ks[k]) = ownE (q ++ s) rs ++ pre (q ++ s) (entL (ks.take (k + 1))) := by rw [hacc, entL_take hk, pre_app, List.append_assoc]
      have h4 : acc.length + (entT ks[k]).length < 4294967296 := by
        have := congrArg List.length hnx
        have h5 := entL_take_le ks (k + 1)
        simp only [List.length_append, pre_length] at this hlen
        omega
      have ht : List.take acc.length (ents acc) = ents acc := by rw [← ents_length acc, List.take_length]
      left
      refine ⟨acc ++ pre (q ++ s) (entT ks[k]), hnx, ?_⟩
      rw [t179_0]
      simp only [nd_ok, nd_lab, nd_rows, nd_kids, encL_length, isL_enc, decL_enc, wrap_hd, hd_pos, ld_br, ld_chk', ld_leaf, fd_br, fd_chk', fd_leaf, decide_true, decide_eq_true_eq, if_true, Int.toNat_natCast, Int.natCast_nonneg, Int.ofNat_lt, Int.ofNat_le, Bool.false_eq_true, if_false, bne_iff_ne, beq_iff_eq, ne_eq, not_true_eq_false, not_false_eq_true, Bool.not_eq_true', decide_eq_false_iff_not, reduceCtorEq, rows_length, pcs_length, er_ok, er_ok', ep_ok, ep_ok', dr_er, dp_ep, isRows_rows, isPcs_pcs, toRows_rows, toPcs_pcs, rows_take, rows_drop, pcs_take, pcs_drop, rows_append, pcs_append, ints_length, isInts_ints, toInts_ints, ei_i, ei_ok, mk_headD, ints_take, ints_drop, ints_append, ints_snoc, ints_snoc', List.take_length, Nat.zero_add, Nat.le_refl, er_a, er_b, er_k, er_n, er_s, er_v, ep_a, ep_b, ep_hk, ep_hn, ep_hs, ep_wk, ep_wn, ep_ws, hk, encL_getD hk, nd_node, hkid, h1, h2, h3, wrap_succ (show k < 9223372036854775807 by omega), ents_length, pre_length, h4, ht, ents_app, List.length_append, and_self, true_or]
    · rintro _ rfl
      rw [t179_0]
      refine ⟨x179_0x0 s rn rt (rows rs) kn kt (encL ks) (q ++ s) (ownE (q ++ s) rs ++ pre (q ++ s) (entL (ks.take ks.length))).length ks.length (ents (ownE (q ++ s) rs ++ pre (q ++ s) (entL (ks.take ks.length)))), by simp, ?_, by simp only [nd_ok, nd_lab, nd_rows, nd_kids, encL_length, isL_enc, decL_enc, wrap_hd, hd_pos, ld_br, ld_chk', ld_leaf, fd_br, fd_chk', fd_leaf, decide_true, decide_eq_true_eq, if_true, Int.toNat_natCast, Int.natCast_nonneg, Int.ofNat_lt, Int.ofNat_le, Bool.false_eq_true, if_false, bne_iff_ne, beq_iff_eq, ne_eq, not_true_eq_false, not_false_eq_true, Bool.not_eq_true', decide_eq_false_iff_not, reduceCtorEq, rows_length, pcs_length, er_ok, er_ok', ep_ok, ep_ok', dr_er, dp_ep, isRows_rows, isPcs_pcs, toRows_rows, toPcs_pcs, rows_take, rows_drop, pcs_take, pcs_drop, rows_append, pcs_append, ints_length, isInts_ints, toInts_ints, ei_i, ei_ok, mk_headD, ints_take, ints_drop, ints_append, ints_snoc, ints_snoc', List.take_length, Nat.zero_add, Nat.le_refl, er_a, er_b, er_k, er_n, er_s, er_v, ep_a, ep_b, ep_hk, ep_hn, ep_hs, ep_wk, ep_wn, ep_ws, Int.lt_irrefl]⟩
      rw [k179_0x0, fd_leaf, List.take_length, ← ents_length (ownE (q ++ s) rs ++ pre (q ++ s) (entL ks)), List.take_length]
  by_cases c : rs = []
  · subst c
    rw [if_neg (by simp)]
    exact key _ rfl
  · have : (0 : Int) < rs.length := by have := List.length_pos_iff.2 c; omega
    rw [if_pos this]
    obtain ⟨rfl, rfl⟩ : rn = none ∧ rt = false := by rcases hf with h | h; exact h; exact absurd h c
    exact key _ (by unfold ownE; rw [if_neg c]; rfl)
theorem s179_ok : ∀ d, CSpecOk E 179 (s179 d)
  | 0 => by
    intro a h cs vals h' he hc
    unfold s179 at he
    split at he <;> simp only [Option.some.injEq, Prod.mk.injEq, reduceCtorEq] at he
    obtain ⟨rfl, rfl, rfl⟩ := he
    simp [allT] at hc
  | d + 1 => by
    intro a h cs vals h' he hc
    unfold s179 at he
    split at he <;> simp only [Option.some.injEq, Prod.mk.injEq, reduceCtorEq] at he
    rename_i s rn rt xs kn kt ys q
    obtain ⟨rfl, rfl, rfl⟩ := he
    simp only [allT, Bool.and_true, Bool.and_eq_true, decide_eq_true_eq] at hc
    obtain ⟨h1, h2, h3, h4, h5, h6, h7⟩ := hc
    obtain ⟨rs, rfl⟩ := rows_ex h1
    obtain ⟨ks, rfl⟩ := isL_ex h2
    simp only [toRows_rows, decL_enc] at *
    refine f179 d (s179_ok d) s rn rt rs kn kt ks q h3 h4 h5 h6 (h7.imp id fun h => ?_)
    cases rs with
    | nil => rfl
    | cons a r => cases h
theorem f143 (s : List UInt8) (rn : Option Bool) (rt : Bool) (rs : List Row) (kn : Option Bool) (kt : Bool) (ks : List Nd) (hn : (entT (.node s rs ks)).length < 4294967290) : call E 143 [.agg [.c (.str s), .c (.sl 5 rn rt (rows rs)), .c (.sl 3 kn kt (encL ks))]] [] = some ([.c (.sl 2 none false (ents (if okR (.node s rs ks) = true then entT (.node s rs ks) else [])))], []) := by
  have hct : (ctOf [(142, s142), (179, s179 (depL ks + 1))]).ok E := ctOf_cons s142_ok (ctOf_cons (s179_ok _) ctOf_nil)
  refine call_of (E := E) (sh := sh) (ct := ctOf [(142, s142), (179, s179 (depL ks + 1))]) (na := 1) (m := 0) hct rfl rfl rfl rfl rfl rfl ?_
  show (p143 (depL ks + 1)).fd ((p143 (depL ks + 1)).ft _ _) = _
  rw [t143]
  by_cases c : okR (.node s rs ks) = true
  · have c' := c
    rw [okR_node] at c'
    simp only [Bool.and_eq_true, decide_eq_true_eq] at c'
    obtain ⟨⟨rfl, rfl⟩, hk⟩ := c'
    have e1 : rows ([] : List Row) = [] := rfl
    have e2 : isRows [] = true := rfl
    have e3 : toRows [] = [] := rfl
    simp only [nd_ok, nd_lab, nd_rows, nd_kids, encL_length, isL_enc, decL_enc, wrap_hd, hd_pos, ld_br, ld_chk', ld_leaf, fd_br, fd_chk', fd_leaf, decide_true, decide_eq_true_eq, if_true, Int.toNat_natCast, Int.natCast_nonneg, Int.ofNat_lt, Int.ofNat_le, Bool.false_eq_true, if_false, bne_iff_ne, beq_iff_eq, ne_eq, not_true_eq_false, not_false_eq_true, Bool.not_eq_true', decide_eq_false_iff_not, reduceCtorEq, rows_length, pcs_length, er_ok, er_ok', ep_ok, ep_ok', dr_er, dp_ep, isRows_rows, isPcs_pcs, toRows_rows, toPcs_pcs, rows_take, rows_drop, pcs_take, pcs_drop, rows_append, pcs_append, ints_length, isInts_ints, toInts_ints, ei_i, ei_ok, mk_headD, ints_take, ints_drop, ints_append, ints_snoc, ints_snoc', List.take_length, Nat.zero_add, Nat.le_refl, er_a, er_b, er_k, er_n, er_s, er_v, ep_a, ep_b, ep_hk, ep_hn, ep_hs, ep_wk, ep_wn, ep_ws, c, show depL ks < depL ks + 1 by omega, hn, hk, pre_nil, List.length_nil, Nat.sub_zero, Nat.zero_le, Bool.not_true, e1, e2, e3, or_true]
  · rw [Bool.not_eq_true] at c
    simp only [nd_ok, nd_lab, nd_rows, nd_kids, encL_length, isL_enc, decL_enc, wrap_hd, hd_pos, ld_br, ld_chk', ld_leaf, fd_br, fd_chk', fd_leaf, decide_true, decide_eq_true_eq, if_true, Int.toNat_natCast, Int.natCast_nonneg, Int.ofNat_lt, Int.ofNat_le, Bool.false_eq_true, if_false, bne_iff_ne, beq_iff_eq, ne_eq, not_true_eq_false, not_false_eq_true, Bool.not_eq_true', decide_eq_false_iff_not, reduceCtorEq, rows_length, pcs_length, er_ok, er_ok', ep_ok, ep_ok', dr_er, dp_ep, isRows_rows, isPcs_pcs, toRows_rows, toPcs_pcs, rows_take, rows_drop, pcs_take, pcs_drop, rows_append, pcs_append, ints_length, isInts_ints, toInts_ints, ei_i, ei_ok, mk_headD, ints_take, ints_drop, ints_append, ints_snoc, ints_snoc', List.take_length, Nat.zero_add, Nat.le_refl, er_a, er_b, er_k, er_n, er_s, er_v, ep_a, ep_b, ep_hk, ep_hn, ep_hs, ep_wk, ep_wn, ep_ws, c, Bool.not_false]
    rfl
theorem s143_ok : CSpecOk E 143 s143 := by
  intro a h cs vals h' he hc
  unfold s143 at he
  split at he <;> simp only [Option.some.injEq, Prod.mk.injEq, reduceCtorEq] at he
  rename_i s rn rt xs kn kt ys
  obtain ⟨rfl, rfl, rfl⟩ := he
  simp only [allT, Bool.and_true, Bool.and_eq_true, decide_eq_true_eq] at hc
  obtain ⟨h1, h2, h3⟩ := hc
  obtain ⟨rs, rfl⟩ := rows_ex h1
  obtain ⟨ks, rfl⟩ := isL_ex h2
  simp only [toRows_rows, decL_enc] at *
  exact f143 s rn rt rs kn kt ks h3
theorem ents_getD {l : List Ent} {i : Nat} (h : i < l.length) : (ents l).getD i [] = ee l[i] := by simp [ents, List.getD_eq_getElem?_getD, h]
theorem ee_p (e : Ent) (d : C) : ((ee e).headD d).st = e.1 := rfl
theorem ee_r (e : Ent) (d : C) : ((ee e).tail.headD d).xs = rows e.2 := rfl
theorem ee_ok (e : Ent) : shOk [.str, .sl 5] (ee e) = true := rfl
theorem f105 (s : List UInt8) (rn : Option Bool) (rt : Bool) (rs : List Row) (kn : Option Bool) (kt : Bool) (ks : List Nd) (q : List UInt8) (hn : (entT (.node s rs ks)).length < 4294967290) : call E 105 [.agg [.c (.str s), .c (.sl 5 rn rt (rows rs)), .c (.sl 3 kn kt (encL ks))], .c (.str q)] [] = some ([.c (.sl 5 none false (rows (getR (.node s rs ks) q)))], []) := by
  have hct : (ctOf [(143, s143)]).ok E := ctOf_cons s143_ok ctOf_nil
  refine call_of (E := E) (sh := sh) (ct := ctOf [(143, s143)]) (na := 2) (m := 0) hct rfl rfl rfl rfl rfl rfl ?_
  rw [t105]
  simp only [nd_ok, nd_lab, nd_rows, nd_kids, encL_length, isL_enc, decL_enc, wrap_hd, hd_pos, ld_br, ld_chk', ld_leaf, fd_br, fd_chk', fd_leaf, decide_true, decide_eq_true_eq, if_true, Int.toNat_natCast, Int.natCast_nonneg, Int.ofNat_lt, Int.ofNat_le, Bool.false_eq_true, if_false, bne_iff_ne, beq_iff_eq, ne_eq, not_true_eq_false, not_false_eq_true, Bool.not_eq_true', decide_eq_false_iff_not, reduceCtorEq, rows_length, pcs_length, er_ok, er_ok', ep_ok, ep_ok', dr_er, dp_ep, isRows_rows, isPcs_pcs, toRows_rows, toPcs_pcs, rows_take, rows_drop, pcs_take, pcs_drop, rows_append, pcs_append, ints_length, isInts_ints, toInts_ints, ei_i, ei_ok, mk_headD, ints_take, ints_drop, ints_append, ints_snoc, ints_snoc', List.take_length, Nat.zero_add, Nat.le_refl, er_a, er_b, er_k, er_n, er_s, er_v, ep_a, ep_b, ep_hk, ep_hn, ep_hs, ep_wk, ep_wn, ep_ws, hn]
  have hL : getR (.node s rs ks) q = look (if okR (.node s rs ks) = true then entT (.node s rs ks) else []) q := by
    rw [getR_look]
    split
    · rename_i c
      rw [okR_node] at c
      simp only [Bool.and_eq_true, decide_eq_true_eq] at c
      obtain ⟨⟨rfl, rfl⟩, hk⟩ := c
      have := entT_node [] [] [] ks
      rw [pre_nil] at this
      rw [this]
      simp [ownE, pre_nil, Nd.kids]
    · rfl
  rw [hL]
  have hl : (if okR (.node s rs ks) = true then entT (.node s rs ks) else []).length < 4294967290 := by split; exact hn; simp
  generalize (if okR (.node s rs ks) = true then entT (.node s rs ks) else []) = l at *
  refine fd_post hct (by kernel_rfl) rfl (list_post (p := p105) hct (b := b105_0) l.length (fun k (_ : Unit) => s105_0 q none false (ents l) k) (fun k _ => look (l.drop k) q = look l q) _ ?_ ?_ 0 (Nat.zero_le _) () rfl)
  · rintro k _ hk hi
    rw [List.drop_eq_getElem_cons hk, look] at hi
    rw [t105_0]
    simp only [nd_ok, nd_lab, nd_rows, nd_kids, encL_length, isL_enc, decL_enc, wrap_hd, hd_pos, ld_br, ld_chk', ld_leaf, fd_br, fd_chk', fd_leaf, decide_true, decide_eq_true_eq, if_true, Int.toNat_natCast, Int.natCast_nonneg, Int.ofNat_lt, Int.ofNat_le, Bool.false_eq_true, if_false, bne_iff_ne, beq_iff_eq, ne_eq, not_true_eq_false, not_false_eq_true, Bool.not_eq_true', decide_eq_false_iff_not, reduceCtorEq, rows_length, pcs_length, er_ok, er_ok', ep_ok, ep_ok', dr_er, dp_ep, isRows_rows, isPcs_pcs, toRows_rows, toPcs_pcs, rows_take, rows_drop, pcs_take, pcs_drop, rows_append, pcs_append, ints_length, isInts_ints, toInts_ints, ei_i, ei_ok, mk_headD, ints_take, ints_drop, ints_append, ints_snoc, ints_snoc', List.take_length, Nat.zero_add, Nat.le_refl, er_a, er_b, er_k, er_n, er_s, er_v, ep_a, ep_b, ep_hk, ep_hn, ep_hs, ep_wk, ep_wn, ep_ws, hk, ents_length, ents_getD hk, ee_p, ee_r, ee_ok, wrap_succ (show k < 9223372036854775807 by omega)]
    by_cases c : l[k].1 = q
    · rw [if_pos c] at hi
      exact .inr ⟨x105_0x0 none (rows l[k].2), by simp, by rw [k105_0x0, fd_leaf, hi], by rw [if_pos c]⟩
    · rw [if_neg c] at hi
      exact .inl ⟨(), hi, by rw [if_neg c]⟩
  · rintro _ hi
    rw [List.drop_length, look] at hi
    rw [t105_0]
    exact ⟨x105_0x1 q none false (ents l) l.length, by simp, by rw [k105_0x1, fd_leaf, ← hi]; rfl, by simp only [nd_ok, nd_lab, nd_rows, nd_kids, encL_length, isL_enc, decL_enc, wrap_hd, hd_pos, ld_br, ld_chk', ld_leaf, fd_br, fd_chk', fd_leaf, decide_true, decide_eq_true_eq, if_true, Int.toNat_natCast, Int.natCast_nonneg, Int.ofNat_lt, Int.ofNat_le, Bool.false_eq_true, if_false, bne_iff_ne, beq_iff_eq, ne_eq, not_true_eq_false, not_false_eq_true, Bool.not_eq_true', decide_eq_false_iff_not, reduceCtorEq, rows_length, pcs_length, er_ok, er_ok', ep_ok, ep_ok', dr_er, dp_ep, isRows_rows, isPcs_pcs, toRows_rows, toPcs_pcs, rows_take, rows_drop, pcs_take, pcs_drop, rows_append, pcs_append, ints_length, isInts_ints, toInts_ints, ei_i, ei_ok, mk_headD, ints_take, ints_drop, ints_append, ints_snoc, ints_snoc', List.take_length, Nat.zero_add, Nat.le_refl, er_a, er_b, er_k, er_n, er_s, er_v, ep_a, ep_b, ep_hk, ep_hn, ep_hs, ep_wk, ep_wn, ep_ws, ents_length, Int.lt_irrefl]⟩
def s105 : CSpec := fun a h => match a, h with
  | [.agg [.c (.str s), .c (.sl 5 rn rt xs), .c (.sl 3 kn kt ys)], .c (.str q)], [] => some ([isRows xs, isL ys, decide ((entT (.node s (toRows xs) (decL ys))).length < 4294967290)], [.c (.sl 5 none false (rows (getR (.node s (toRows xs) (decL ys)) q)))], [])
  | _, _ => none
theorem s105_ok : CSpecOk E 105 s105 := by
  intro a h cs vals h' he hc
  unfold s105 at he
  split at he <;> simp only [Option.some.injEq, Prod.mk.injEq, reduceCtorEq] at he
  rename_i s rn rt xs kn kt ys q
  obtain ⟨rfl, rfl, rfl⟩ := he
  simp only [allT, Bool.and_true, Bool.and_eq_true, decide_eq_true_eq] at hc
  obtain ⟨h1, h2, h3⟩ := hc
  obtain ⟨rs, rfl⟩ := rows_ex h1
  obtain ⟨ks, rfl⟩ := isL_ex h2
  simp only [toRows_rows, decL_enc] at *
  exact f105 s rn rt rs kn kt ks q h3

/-! ## what is left -/
theorem f99 (l : List Row) (nl : Option Bool) (tt : Bool) : call E 99 [.c (.sl 5 nl tt (rows l))] [] = some ([V.b (shortR l)], []) := by
  have hct : (ctOf []).ok E := ctOf_nil
  refine call_of (E := E) (sh := sh) (ct := ctOf []) (na := 1) (m := 0) hct rfl rfl rfl rfl rfl rfl ?_
  rw [t99, rows_length, fd_br]
  unfold shortR
  by_cases c0 : (70 : Int) < l.length
  · rw [if_pos (by simpa using c0), fd_leaf]
    have : ¬ l.length ≤ 70 := by omega
    simp [this]
  rw [if_neg (by simpa using c0)]
  have c0' : l.length ≤ 70 := by omega
  simp only [c0', decide_true, Bool.true_and]
  refine fd_post hct (by kernel_rfl) rfl (list_post (p := p99) hct (b := b99_0) l.length (fun k (_ : Unit) => s99_0 nl tt (rows l) k) (fun k _ => ((l.drop k).all fun r => decide (r.v.s.length ≤ 100)) = (l.all fun r => decide (r.v.s.length ≤ 100))) _ ?_ ?_ 0 (Nat.zero_le _) () rfl)
  · rintro k _ hk hi
    rw [List.drop_eq_getElem_cons hk, List.all_cons] at hi
    rw [t99_0]
    simp only [ld_br, ld_chk', ld_leaf, fd_br, fd_chk', fd_leaf, decide_true, decide_eq_true_eq, if_true, Int.toNat_natCast, Int.natCast_nonneg, Int.ofNat_lt, Int.ofNat_le, Bool.false_eq_true, if_false, bne_iff_ne, beq_iff_eq, ne_eq, not_true_eq_false, not_false_eq_true, Bool.not_eq_true', decide_eq_false_iff_not, reduceCtorEq, rows_length, pcs_length, er_ok, er_ok', ep_ok, ep_ok', dr_er, dp_ep, isRows_rows, isPcs_pcs, toRows_rows, toPcs_pcs, rows_take, rows_drop, pcs_take, pcs_drop, rows_append, pcs_append, ints_length, isInts_ints, toInts_ints, ei_i, ei_ok, mk_headD, ints_take, ints_drop, ints_append, ints_snoc, ints_snoc', List.take_length, Nat.zero_add, Nat.le_refl, er_a, er_b, er_k, er_n, er_s, er_v, ep_a, ep_b, ep_hk, ep_hn, ep_hs, ep_wk, ep_wn, ep_ws, hk, rows_getD hk, wrap_succ (show k < 9223372036854775807 by omega)]
    by_cases c : (100 : Int) < l[k].v.s.length
    · have : ¬ l[k].v.s.length ≤ 100 := by omega
      simp only [this, decide_false, Bool.false_and] at hi
      exact .inr ⟨x99_0x0, by simp, by rw [k99_0x0, fd_leaf, ← hi], by rw [if_pos c]⟩
    · have : l[k].v.s.length ≤ 100 := by omega
      simp only [this, decide_true, Bool.true_and] at hi
      exact .inl ⟨(), hi, by rw [if_neg c]⟩
  · rintro _ hi
    rw [List.drop_length, List.all_nil] at hi
    rw [t99_0]
    exact ⟨x99_0x1 nl tt (rows l) l.length, by simp, by rw [k99_0x1, fd_leaf, ← hi], by simp only [ld_br, ld_chk', ld_leaf, fd_br, fd_chk', fd_leaf, decide_true, decide_eq_true_eq, if_true, Int.toNat_natCast, Int.natCast_nonneg, Int.ofNat_lt, Int.ofNat_le, Bool.false_eq_true, if_false, bne_iff_ne, beq_iff_eq, ne_eq, not_true_eq_false, not_false_eq_true, Bool.not_eq_true', decide_eq_false_iff_not, reduceCtorEq, rows_length, pcs_length, er_ok, er_ok', ep_ok, ep_ok', dr_er, dp_ep, isRows_rows, isPcs_pcs, toRows_rows, toPcs_pcs, rows_take, rows_drop, pcs_take, pcs_drop, rows_append, pcs_append, ints_length, isInts_ints, toInts_ints, ei_i, ei_ok, mk_headD, ints_take, ints_drop, ints_append, ints_snoc, ints_snoc', List.take_length, Nat.zero_add, Nat.le_refl, er_a, er_b, er_k, er_n, er_s, er_v, ep_a, ep_b, ep_hk, ep_hn, ep_hs, ep_wk, ep_wn, ep_ws, Int.lt_irrefl]⟩
theorem s99_ok : CSpecOk E 99 s99 := by
  intro a h cs vals h' he hc
  unfold s99 at he
  split at he <;> simp only [Option.some.injEq, Prod.mk.injEq, reduceCtorEq] at he
  rename_i nl tt xs
  obtain ⟨rfl, rfl, rfl⟩ := he
  simp only [allT, Bool.and_true, Bool.and_eq_true, decide_eq_true_eq] at hc
  obtain ⟨l, rfl⟩ := rows_ex hc
  rw [toRows_rows]
  exact f99 l nl tt
theorem leftT_eq (t : Nd) (n d : Int) : leftT t n d = if d < 1 ∨ n - 1 - ((t.lab.length / 50 : Nat) : Int) < 1 ∨ shortR t.rows = false then 0 else leftL t.kids (n - 1 - ((t.lab.length / 50 : Nat) : Int)) (d - 1) := by
  cases t; rw [leftT]; rfl
theorem leftL_cons (t : Nd) (r : List Nd) (n d : Int) : leftL (t :: r) n d = if 0 < n then leftL r (leftT t n d) d else n := by rw [leftL]
mutual
theorem leftT_le : ∀ (t : Nd) (n d : Int), 0 ≤ n → 0 ≤ leftT t n d ∧ leftT t n d ≤ n
  | .node lab rs ks, n, d, h => by
    rw [leftT]
    split
    · omega
    · have := leftL_le ks (n - 1 - ((lab.length / 50 : Nat) : Int)) (d - 1) (by omega)
      omega
theorem leftL_le : ∀ (l : List Nd) (n d : Int), 0 ≤ n → 0 ≤ leftL l n d ∧ leftL l n d ≤ n
  | [], n, d, h => by rw [leftL]; omega
  | t :: r, n, d, h => by
    rw [leftL]
    split
    · have h1 := leftT_le t n d h
      have h2 := leftL_le r (leftT t n d) d h1.1
      omega
    · omega
end
theorem lensL_mem : ∀ {l : List Nd} {t : Nd}, lensL l = true → t ∈ l → lensT t = true
  | x :: r, t, h, ht => by
    rw [lensL, Bool.and_eq_true] at h
    rcases List.mem_cons.1 ht with rfl | ht
    · exact h.1
    · exact lensL_mem h.2 ht
theorem lensT_eq (t : Nd) : lensT t = (decide (t.lab.length ≤ 9223372036854775807) && decide (t.rows.length ≤ 9223372036854775807) && decide (t.kids.length ≤ 9223372036854775807) && lensL t.kids) := by cases t; rw [lensT]; rfl
theorem f59 (dd : Nat) (ih : CSpecOk E 59 (s59 dd)) (s : List UInt8) (rn : Option Bool) (rt : Bool) (rs : List Row) (kn : Option Bool) (kt : Bool) (ks : List Nd) (n d : Int) (hd : depL ks < dd + 1) (h0 : 0 ≤ n) (h1 : n ≤ 1000) (h2 : -1000 ≤ d) (h3 : d ≤ 1000) (hl : lensT (.node s rs ks) = true) :
    call E 59 [.agg [.c (.str s), .c (.sl 5 rn rt (rows rs)), .c (.sl 3 kn kt (encL ks))], V.i n, V.i d] [] = some ([V.i (leftT (.node s rs ks) n d)], []) := by
  have hct : (ctOf [(99, s99), (59, s59 dd)]).ok E := ctOf_cons s99_ok (ctOf_cons ih ctOf_nil)
  refine call_of (E := E) (sh := sh) (ct := ctOf [(99, s99), (59, s59 dd)]) (na := 3) (m := 0) hct rfl rfl rfl rfl rfl rfl ?_
  show (p59 dd).fd ((p59 dd).ft _ _) = _
  rw [lensT] at hl
  simp only [Bool.and_eq_true, decide_eq_true_eq] at hl
  obtain ⟨⟨⟨l1, l2⟩, l4⟩, l3⟩ := hl
  have w0 : ((s.length : Int).tdiv 50) = ((s.length / 50 : Nat) : Int) := rfl
  have w1 : IntKind.wrap .i64 (IntKind.wrap .i64 (n - 1) - IntKind.wrap .i64 ((s.length : Int).tdiv 50)) = n - 1 - ((s.length / 50 : Nat) : Int) := by
    rw [w0, wrap_same (n := n - 1) (by omega) (by omega), wrap_same (n := ((s.length / 50 : Nat) : Int)) (by omega) (by omega), wrap_same (by omega) (by omega)]
  rw [t59, w1]
  simp only [nd_ok, nd_lab, nd_rows, nd_kids, encL_length, isL_enc, decL_enc, wrap_hd, hd_pos, ld_br, ld_chk', ld_leaf, fd_br, fd_chk', fd_leaf, decide_true, decide_eq_true_eq, if_true, Int.toNat_natCast, Int.natCast_nonneg, Int.ofNat_lt, Int.ofNat_le, Bool.false_eq_true, if_false, bne_iff_ne, beq_iff_eq, ne_eq, not_true_eq_false, not_false_eq_true, Bool.not_eq_true', decide_eq_false_iff_not, reduceCtorEq, rows_length, pcs_length, er_ok, er_ok', ep_ok, ep_ok', dr_er, dp_ep, isRows_rows, isPcs_pcs, toRows_rows, toPcs_pcs, rows_take, rows_drop, pcs_take, pcs_drop, rows_append, pcs_append, ints_length, isInts_ints, toInts_ints, ei_i, ei_ok, mk_headD, ints_take, ints_drop, ints_append, ints_snoc, ints_snoc', List.take_length, Nat.zero_add, Nat.le_refl, er_a, er_b, er_k, er_n, er_s, er_v, ep_a, ep_b, ep_hk, ep_hn, ep_hs, ep_wk, ep_wn, ep_ws]
  rw [leftT]
  have hm : n - 1 - ((s.length / 50 : Nat) : Int) ≤ 1000 := by omega
  generalize n - 1 - ((s.length / 50 : Nat) : Int) = m at *
  by_cases c1 : d < 1
  · simp [c1]
  rw [if_neg c1]
  by_cases c2 : m < 1
  · simp [c2]
  rw [if_neg c2]
  by_cases c3 : shortR rs = false
  · simp [c3]
  rw [if_neg c3, if_neg (show ¬ (d < 1 ∨ m < 1 ∨ shortR rs = false) from fun h => h.elim c1 fun h => h.elim c2 c3)]
  have hm0 : 0 ≤ m := by omega
  have w2 : IntKind.wrap .i64 (d - 1) = d - 1 := wrap_same (by omega) (by omega)
  refine fd_post hct (by kernel_rfl) rfl (list_post (p := p59 dd) hct (b := b59_0) ks.length (fun k (m : Int) => s59_0 s rn rt (rows rs) kn kt (encL ks) d m k) (fun k m' => leftL (ks.drop k) m' (d - 1) = leftL ks m (d - 1) ∧ 0 ≤ m' ∧ m' ≤ 1000) _ ?_ ?_ 0 (Nat.zero_le _) m ⟨rfl, hm0, hm⟩)
  · rintro k m' hk ⟨hi, hm1, hm2⟩
    rw [List.drop_eq_getElem_cons hk, leftL_cons] at hi
    have hkid : depL ks[k].kids < dd := by have := depL_kid (List.getElem_mem hk); omega
    rw [t59_0]
    by_cases c : 0 < m'
    · rw [if_pos c] at hi
      have hb := leftT_le ks[k] m' (d - 1) hm1
      refine .inl ⟨leftT ks[k] m' (d - 1), ⟨hi, hb.1, by omega⟩, ?_⟩
      simp only [nd_ok, nd_lab, nd_rows, nd_kids, encL_length, isL_enc, decL_enc, wrap_hd, hd_pos, ld_br, ld_chk', ld_leaf, fd_br, fd_chk', fd_leaf, decide_true, decide_eq_true_eq, if_true, Int.toNat_natCast, Int.natCast_nonneg, Int.ofNat_lt, Int.ofNat_le, Bool.false_eq_true, if_false, bne_iff_ne, beq_iff_eq, ne_eq, not_true_eq_false, not_false_eq_true, Bool.not_eq_true', decide_eq_false_iff_not, reduceCtorEq, rows_length, pcs_length, er_ok, er_ok', ep_ok, ep_ok', dr_er, dp_ep, isRows_rows, isPcs_pcs, toRows_rows, toPcs_pcs, rows_take, rows_drop, pcs_take, pcs_drop, rows_append, pcs_append, ints_length, isInts_ints, toInts_ints, ei_i, ei_ok, mk_headD, ints_take, ints_drop, ints_append, ints_snoc, ints_snoc', List.take_length, Nat.zero_add, Nat.le_refl, er_a, er_b, er_k, er_n, er_s, er_v, ep_a, ep_b, ep_hk, ep_hn, ep_hs, ep_wk, ep_wn, ep_ws, hk, encL_getD hk, nd_node, hkid, w2, hm1, hm2, c, show -1000 ≤ d - 1 by omega, show d - 1 ≤ 1000 by omega, lensL_mem l3 (List.getElem_mem hk), wrap_succ (show k < 9223372036854775807 by omega)]
    · rw [if_neg c] at hi
      exact .inr ⟨x59_0x0 s rn rt (rows rs) kn kt (encL ks) d m' k, by simp, by rw [k59_0x0, fd_leaf, ← hi], by simp only [nd_ok, nd_lab, nd_rows, nd_kids, encL_length, isL_enc, decL_enc, wrap_hd, hd_pos, ld_br, ld_chk', ld_leaf, fd_br, fd_chk', fd_leaf, decide_true, decide_eq_true_eq, if_true, Int.toNat_natCast, Int.natCast_nonneg, Int.ofNat_lt, Int.ofNat_le, Bool.false_eq_true, if_false, bne_iff_ne, beq_iff_eq, ne_eq, not_true_eq_false, not_false_eq_true, Bool.not_eq_true', decide_eq_false_iff_not, reduceCtorEq, rows_length, pcs_length, er_ok, er_ok', ep_ok, ep_ok', dr_er, dp_ep, isRows_rows, isPcs_pcs, toRows_rows, toPcs_pcs, rows_take, rows_drop, pcs_take, pcs_drop, rows_append, pcs_append, ints_length, isInts_ints, toInts_ints, ei_i, ei_ok, mk_headD, ints_take, ints_drop, ints_append, ints_snoc, ints_snoc', List.take_length, Nat.zero_add, Nat.le_refl, er_a, er_b, er_k, er_n, er_s, er_v, ep_a, ep_b, ep_hk, ep_hn, ep_hs, ep_wk, ep_wn, ep_ws, hk, c]⟩
  · rintro m' ⟨hi, hm1, hm2⟩
    rw [List.drop_length, leftL] at hi
    rw [t59_0]
    exact ⟨x59_0x0 s rn rt (rows rs) kn kt (encL ks) d m' ks.length, by simp, by rw [k59_0x0, fd_leaf, ← hi], by simp only [nd_ok, nd_lab, nd_rows, nd_kids, encL_length, isL_enc, decL_enc, wrap_hd, hd_pos, ld_br, ld_chk', ld_leaf, fd_br, fd_chk', fd_leaf, decide_true, decide_eq_true_eq, if_true, Int.toNat_natCast, Int.natCast_nonneg, Int.ofNat_lt, Int.ofNat_le, Bool.false_eq_true, if_false, bne_iff_ne, beq_iff_eq, ne_eq, not_true_eq_false, not_false_eq_true, Bool.not_eq_true', decide_eq_false_iff_not, reduceCtorEq, rows_length, pcs_length, er_ok, er_ok', ep_ok, ep_ok', dr_er, dp_ep, isRows_rows, isPcs_pcs, toRows_rows, toPcs_pcs, rows_take, rows_drop, pcs_take, pcs_drop, rows_append, pcs_append, ints_length, isInts_ints, toInts_ints, ei_i, ei_ok, mk_headD, ints_take, ints_drop, ints_append, ints_snoc, ints_snoc', List.take_length, Nat.zero_add, Nat.le_refl, er_a, er_b, er_k, er_n, er_s, er_v, ep_a, ep_b, ep_hk, ep_hn, ep_hs, ep_wk, ep_wn, ep_ws, Int.lt_irrefl]⟩
theorem s59_ok : ∀ d, CSpecOk E 59 (s59 d)
  | 0 => by
    intro a h cs vals h' he hc
    unfold s59 at he
    split at he <;> simp only [Option.some.injEq, Prod.mk.injEq, reduceCtorEq] at he
    obtain ⟨rfl, rfl, rfl⟩ := he
    simp [allT] at hc
  | d + 1 => by
    intro a h cs vals h' he hc
    unfold s59 at he
    split at he <;> simp only [Option.some.injEq, Prod.mk.injEq, reduceCtorEq] at he
    rename_i s rn rt xs kn kt ys n k
    obtain ⟨rfl, rfl, rfl⟩ := he
    simp only [allT, Bool.and_true, Bool.and_eq_true, decide_eq_true_eq] at hc
    obtain ⟨h1, h2, h3, h4, h5, h6, h7, h8⟩ := hc
    obtain ⟨rs, rfl⟩ := rows_ex h1
    obtain ⟨ks, rfl⟩ := isL_ex h2
    simp only [toRows_rows, decL_enc] at *
    exact f59 d (s59_ok d) s rn rt rs kn kt ks n k h3 h4 h5 h6 h7 h8
end Go.Proofs.YtbilmkcdhodenaaDoor

end
