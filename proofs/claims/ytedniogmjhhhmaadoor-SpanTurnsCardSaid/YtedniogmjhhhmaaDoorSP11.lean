/-
  Chapter 02 (span): the iterator over bounds.
-/
import Derived.Test.YtedniogmjhhhmaaDoorST6
set_option linter.all false
set_option linter.unusedSimpArgs false
set_option linter.unusedVariables false
namespace Go.Proofs.YtedniogmjhhhmaaDoor
open Go Go.Ev

theorem er_mk_a (x : Row) (d : C) : (Sk.int .i64).mk ((er x).headD d) = C.int .i64 x.a := rfl
theorem er_mk_b (x : Row) (d : C) : (Sk.int .i64).mk ((er x).tail.headD d) = C.int .i64 x.b := rfl
theorem ei_take1 (n : Int) : List.take 1 (ei n) = ei n := rfl
theorem ei_mk (n : Int) (d : C) : (Sk.int .i64).mk ((ei n).headD d) = C.int .i64 n := rfl
theorem ints_two (l : List Int) (a b : Int) : ints l ++ [[C.int .i64 a], [C.int .i64 b]] = ints (l ++ [a, b]) := by simp [ints, ei]
theorem timesOf_cons (x : Row) (l : List Row) : timesOf (x :: l) = x.a :: x.b :: timesOf l := by simp [timesOf]
theorem timesOf_len (l : List Row) : (timesOf l).length = 2 * l.length := by
  induction l with
  | nil => rfl
  | cons x r ih => rw [timesOf_cons]; simp [ih]; omega
theorem timesOf_take {l : List Row} {k : Nat} (h : k < l.length) : timesOf (l.take (k + 1)) = timesOf (l.take k) ++ [l[k].a, l[k].b] := by
  rw [List.take_succ, List.getElem?_eq_getElem h]
  simp only [timesOf, List.flatMap_append, Option.toList_some, List.flatMap_cons, List.flatMap_nil, List.append_nil]
theorem pairsOf_len : ∀ (l : List Int), (pairsOf l).length = l.length - 1
  | [] => rfl
  | [_] => rfl
  | x :: y :: r => by
    have := pairsOf_len (y :: r)
    simp only [pairsOf, List.length_cons] at this ⊢
    omega
theorem pairsOf_get {l : List Int} {k : Nat} (h : k + 1 < l.length) : (pairsOf l)[k]? = some (l[k], l[k + 1]) := by
  have : pairsOf l = pairsOf (l.drop 0) := rfl
  have key : ∀ (k : Nat) (l : List Int) (h : k + 1 < l.length), (pairsOf l)[k]? = some (l[k], l[k + 1]) := by
    intro k
    induction k with
    | zero =>
      intro l h
      match l, h with
      | x :: y :: r, _ => rfl
    | succ k ih =>
      intro l h
      match l, h with
      | x :: y :: r, h =>
        have := ih (y :: r) (by simpa using h)
        simpa [pairsOf] using this
  exact key k l h
theorem eqb_pair (a b : Int) : eqbV [V.c (C.int .i64 a), V.c (C.int .i64 b)] (encP (a, b)) = true := by simp [encP, eqbV, V.eqb, C.eqb]

theorem ld_inner53 (hct : p53.ct.ok p53.E) (nl : Option Bool) (tt : Bool) (xs : List (List C)) (nl2 : Option Bool) (t2 : Bool) (ys : List (List C)) (u : List (List V)) (t : Bool) (n12 : Option Bool) (t12 : Bool) (x12 : List (List C)) (i : Nat) (n18 : Option Bool) (t18 : Bool) (l : List Row) (acc : List Int) (hl : l.length < 1000000) (ha : acc.length < 4000000) (hi : i < 1000) :
    p53.ld b53_0 (.ls 0 (s53_0_0 nl tt xs nl2 t2 ys u t acc.length n12 t12 x12 2 i (ints acc) n18 t18 (rows l) l.length 0)) = some (R.s (s53_0 nl tt xs nl2 t2 ys u t (acc ++ timesOf l).length n12 t12 x12 2 ((i + 1 : Nat) : Int) (ints (acc ++ timesOf l)))) := by
  refine ld_post hct (by kernel_rfl) rfl (list_post hct (b := b53_0_0) l.length (fun k (s : List Int) => s53_0_0 nl tt xs nl2 t2 ys u t s.length n12 t12 x12 2 i (ints s) n18 t18 (rows l) l.length k) (fun k s => s = acc ++ timesOf (l.take k)) _ ?_ ?_ 0 (Nat.zero_le _) acc (by simp [timesOf]))
  · rintro k _ hk rfl
    rw [t53_0_0]
    have hlen : (acc ++ timesOf (l.take k)).length + 2 < 4294967296 := by rw [List.length_append, timesOf_len, List.length_take]; omega
    have ht : List.take (acc ++ timesOf (l.take k)).length (ints (acc ++ timesOf (l.take k))) = ints (acc ++ timesOf (l.take k)) := by rw [← ints_length (acc ++ timesOf (l.take k)), List.take_length]
    simp only [ld_br, ld_chk', ld_leaf, fd_br, fd_chk', fd_leaf, decide_true, decide_eq_true_eq, if_true, Int.toNat_natCast, Int.natCast_nonneg, Int.ofNat_lt, Int.ofNat_le, Bool.false_eq_true, if_false, bne_iff_ne, beq_iff_eq, ne_eq, not_true_eq_false, not_false_eq_true, Bool.not_eq_true', decide_eq_false_iff_not, reduceCtorEq, rows_length, pcs_length, er_ok, er_ok', ep_ok, ep_ok', dr_er, dp_ep, isRows_rows, isPcs_pcs, toRows_rows, toPcs_pcs, rows_take, rows_drop, pcs_take, pcs_drop, rows_append, pcs_append, ints_length, isInts_ints, toInts_ints, ei_i, ei_ok, mk_headD, ints_take, ints_drop, ints_append, ints_snoc, ints_snoc', List.take_length, Nat.zero_add, Nat.le_refl, er_a, er_b, er_k, er_n, er_s, er_v, ep_a, ep_b, ep_hk, ep_hn, ep_hs, ep_wk, ep_wn, ep_ws, hk, rows_getD hk, wrap_succ (show k < 9223372036854775807 by omega), hlen, er_mk_a, er_mk_b, ht, ints_two]
    left
    refine ⟨_, rfl, ?_⟩
    rw [timesOf_take hk, ← List.append_assoc]
    simp
    omega
  · rintro _ rfl
    rw [t53_0_0]
    refine ⟨x53_0_0x0 nl tt xs nl2 t2 ys u t (acc ++ timesOf (l.take l.length)).length n12 t12 x12 2 i (ints (acc ++ timesOf (l.take l.length))) n18 t18 (rows l) l.length l.length, by simp, ?_, by simp only [ld_br, ld_chk', ld_leaf, fd_br, fd_chk', fd_leaf, decide_true, decide_eq_true_eq, if_true, Int.toNat_natCast, Int.natCast_nonneg, Int.ofNat_lt, Int.ofNat_le, Bool.false_eq_true, if_false, bne_iff_ne, beq_iff_eq, ne_eq, not_true_eq_false, not_false_eq_true, Bool.not_eq_true', decide_eq_false_iff_not, reduceCtorEq, rows_length, pcs_length, er_ok, er_ok', ep_ok, ep_ok', dr_er, dp_ep, isRows_rows, isPcs_pcs, toRows_rows, toPcs_pcs, rows_take, rows_drop, pcs_take, pcs_drop, rows_append, pcs_append, ints_length, isInts_ints, toInts_ints, ei_i, ei_ok, mk_headD, ints_take, ints_drop, ints_append, ints_snoc, ints_snoc', List.take_length, Nat.zero_add, Nat.le_refl, er_a, er_b, er_k, er_n, er_s, er_v, ep_a, ep_b, ep_hk, ep_hn, ep_hs, ep_wk, ep_wn, ep_ws, Int.lt_irrefl]⟩
    rw [k53_0_0x0, ld_leaf, List.take_length, wrap_succ (show i < 9223372036854775807 by omega)]
theorem f53 (x y : List Row) (nl : Option Bool) (tt : Bool) (nl2 : Option Bool) (t2 : Bool) (hx : x.length < 1000000) (hy : y.length < 1000000) (u : List (List V)) (t : Bool) (hw : Want ((pairsOf (bnds x y)).map encP) u t) :
    call E 53 [.yl 2, .ptr 0 0 0 0, .ptr 1 0 0 0] [.box [.c (.sl 5 nl tt (rows x))], .box [.c (.sl 5 nl2 t2 (rows y))], .yo u t] = some ([], [.box [.c (.sl 5 nl tt (rows x))], .box [.c (.sl 5 nl2 t2 (rows y))], .yo [] t]) := by
  have hct : (ctOf [(54, s54), (55, s55)]).ok E := ctOf_cons s54_ok (ctOf_cons s55_ok ctOf_nil)
  refine call_of (E := E) (sh := sh) (ct := ctOf [(54, s54), (55, s55)]) (na := 3) (m := 3) hct rfl rfl rfl rfl rfl rfl ?_
  rw [t53]
  refine fd_post hct (by kernel_rfl) rfl (list_post (p := p53) hct (b := b53_0) 2 (fun k (s : List Int) => s53_0 nl tt (rows x) nl2 t2 (rows y) u t s.length (some false) true [[.sl 5 nl tt (rows x)], [.sl 5 nl2 t2 (rows y)]] 2 k (ints s)) (fun k s => s = if k = 0 then [] else if k = 1 then timesOf x else timesOf x ++ timesOf y) _ ?_ ?_ 0 (Nat.zero_le _) [] (by simp))
  · intro k s hk hs
    left
    rw [t53_0]
    rcases (show k = 0 ∨ k = 1 by omega) with rfl | rfl
    · simp only [if_true] at hs
      subst hs
      refine ⟨timesOf x, by simp, ?_⟩
      have := ld_inner53 hct nl tt (rows x) nl2 t2 (rows y) u t (some false) true [[.sl 5 nl tt (rows x)], [.sl 5 nl2 t2 (rows y)]] 0 nl tt x [] hx (by simp) (by omega)
      rw [ld_br, if_pos (by decide), ld_chk', if_pos (by decide), ld_chk', if_pos rfl, ld_chk', if_pos (by rfl), ld_chk', if_pos (by rfl)]
      show p53.ld b53_0 (.ls 0 (s53_0_0 nl tt (rows x) nl2 t2 (rows y) u t 0 (some false) true [[.sl 5 nl tt (rows x)], [.sl 5 nl2 t2 (rows y)]] 2 ((0 : Nat) : Int) (ints []) nl tt (rows x) ((rows x).length : Int) 0)) = _
      rw [rows_length]
      exact this
    · simp only [Nat.one_ne_zero, if_true, if_false] at hs
      subst hs
      refine ⟨timesOf x ++ timesOf y, by simp, ?_⟩
      have := ld_inner53 hct nl tt (rows x) nl2 t2 (rows y) u t (some false) true [[.sl 5 nl tt (rows x)], [.sl 5 nl2 t2 (rows y)]] 1 nl2 t2 y (timesOf x) hy (by rw [timesOf_len]; omega) (by omega)
      rw [ld_br, if_pos (by decide), ld_chk', if_pos (by decide), ld_chk', if_pos rfl, ld_chk', if_pos (by rfl), ld_chk', if_pos (by rfl)]
      show p53.ld b53_0 (.ls 0 (s53_0_0 nl tt (rows x) nl2 t2 (rows y) u t (timesOf x).length (some false) true [[.sl 5 nl tt (rows x)], [.sl 5 nl2 t2 (rows y)]] 2 ((1 : Nat) : Int) (ints (timesOf x)) nl2 t2 (rows y) ((rows y).length : Int) 0)) = _
      rw [rows_length]
      exact this
  · intro s hs
    rw [if_neg (by decide), if_neg (by decide)] at hs
    rw [t53_0]
    refine ⟨x53_0x0 nl tt (rows x) nl2 t2 (rows y) u t s.length (some false) true [[.sl 5 nl tt (rows x)], [.sl 5 nl2 t2 (rows y)]] 2 2 (ints s), by simp, ?_, by simp [ld_br, ld_leaf]⟩
    rw [k53_0x0]
    have hsl : s.length < 4294967296 := by rw [hs, List.length_append, timesOf_len, timesOf_len]; omega
    have hbs : bnds x y = Lib.compact (sortI s) := by rw [hs]; rfl
    simp only [ld_br, ld_chk', ld_leaf, fd_br, fd_chk', fd_leaf, decide_true, decide_eq_true_eq, if_true, Int.toNat_natCast, Int.natCast_nonneg, Int.ofNat_lt, Int.ofNat_le, Bool.false_eq_true, if_false, bne_iff_ne, beq_iff_eq, ne_eq, not_true_eq_false, not_false_eq_true, Bool.not_eq_true', decide_eq_false_iff_not, reduceCtorEq, rows_length, pcs_length, er_ok, er_ok', ep_ok, ep_ok', dr_er, dp_ep, isRows_rows, isPcs_pcs, toRows_rows, toPcs_pcs, rows_take, rows_drop, pcs_take, pcs_drop, rows_append, pcs_append, ints_length, isInts_ints, toInts_ints, ei_i, ei_ok, mk_headD, ints_take, ints_drop, ints_append, ints_snoc, ints_snoc', List.take_length, Nat.zero_add, Nat.le_refl, er_a, er_b, er_k, er_n, er_s, er_v, ep_a, ep_b, ep_hk, ep_hn, ep_hs, ep_wk, ep_wn, ep_ws, hsl, sortI_len]
    generalize hzs : sortI s = zs at *
    have hcl : (compL zs).length < 4294967296 := by rw [compL_len, ← hzs, sortI_len]; exact hsl
    have hcle := compact_le zs
    rw [compL_len] at hcl
    have hget : ∀ k, k < (Lib.compact zs).length → (ints (compL zs)).getD k [] = ei ((Lib.compact zs).getD k 0) := fun k hk => by
      rw [ints_getD (by rw [compL_len]; omega)]
      simp [compL, List.getD_eq_getElem?_getD, List.getElem?_append_left hk]
    rw [hbs] at hw
    generalize hb : Lib.compact zs = bs at *
    have hes : ((pairsOf bs).map encP).length = bs.length - 1 := by rw [List.length_map, pairsOf_len]
    obtain ⟨m, hm, hut, hm2⟩ : ∃ m, u = ((pairsOf bs).map encP).take m ∧ (t = false → m = bs.length - 1) ∧ (t = true → 1 ≤ m ∧ m ≤ bs.length - 1) := by
      rcases hw with ⟨h1, h2⟩ | ⟨h1, h2, h3⟩
      · exact ⟨bs.length - 1, by rw [← hes, List.take_length]; exact h2, fun _ => rfl, fun h => by rw [h1] at h; cases h⟩
      · refine ⟨u.length, List.prefix_iff_eq_take.1 h3, fun h => (by rw [h1] at h; cases h), fun _ => ⟨List.length_pos_iff.2 h2, ?_⟩⟩
        rw [← hes]; exact h3.length_le
    have htl : ∀ k, k < m → m ≤ bs.length - 1 → u.drop k = encP (bs.getD k 0, bs.getD (k + 1) 0) :: u.drop (k + 1) := fun k hk hmb => by
      have hul : u.length = m := by rw [hm, List.length_take, hes]; omega
      have hk1 : k + 1 < bs.length := by omega
      rw [List.drop_eq_getElem_cons (show k < u.length by omega)]
      congr 1
      have : u[k]? = some (encP (bs.getD k 0, bs.getD (k + 1) 0)) := by
        rw [hm, List.getElem?_take, if_pos hk, List.getElem?_map, pairsOf_get hk1]
        simp [List.getD_eq_getElem?_getD, hk1, show k < bs.length by omega]
      rw [List.getElem?_eq_getElem (show k < u.length by omega)] at this
      exact Option.some.inj this
    refine fd_post hct (by kernel_rfl) rfl (by
      have := list_post (p := p53) hct (b := b53_1) (bs.length - 1) (fun k (s : List (List V)) => s53_1 nl tt (rows x) nl2 t2 (rows y) s t bs.length (k + 1) (ints (compL zs))) (fun k s => s = u.drop k ∧ k ≤ m ∧ (t = true → k < m)) (fun x_1 => p53.fd (p53.fkx 1 x_1) = some (.out [] [.box [.c (.sl 5 nl tt (rows x))], .box [.c (.sl 5 nl2 t2 (rows y))], .yo [] t])) ?_ ?_ 0 (Nat.zero_le _) u ⟨rfl, Nat.zero_le _, fun h => (hm2 h).1⟩
      · exact this
      · rintro k _ hk ⟨rfl, h2, h3⟩
        have hkm : k < m := by
          cases t with
          | false => have := hut rfl; omega
          | true => exact h3 rfl
        have hmb : m ≤ bs.length - 1 := by
          cases t with
          | false => have := hut rfl; omega
          | true => exact (hm2 rfl).2
        have hk1 : k + 1 < bs.length := by omega
        have hk0 : k < bs.length := by omega
        have w1 : IntKind.wrap .i64 (((k + 1 : Nat) : Int) - 1) = (k : Int) := by rw [wrap_same (by omega) (by omega)]; omega
        have w2 : IntKind.wrap .i64 (((k + 1 : Nat) : Int) + 1) = (((k + 1 : Nat) : Int) + 1) := by rw [wrap_same (by omega) (by omega)]
        have e1 : ((k : Int) + 1) = ((k + 1 : Nat) : Int) := rfl
        have q1 : k < (compL zs).length := by rw [compL_len]; omega
        have q2 : k + 1 < (compL zs).length := by rw [compL_len]; omega
        have hd := htl k hkm hmb
        rw [t53_1]
        simp only [e1, ld_br, ld_chk', ld_leaf, fd_br, fd_chk', fd_leaf, decide_true, decide_eq_true_eq, if_true, Int.toNat_natCast, Int.natCast_nonneg, Int.ofNat_lt, Int.ofNat_le, Bool.false_eq_true, if_false, bne_iff_ne, beq_iff_eq, ne_eq, not_true_eq_false, not_false_eq_true, Bool.not_eq_true', decide_eq_false_iff_not, reduceCtorEq, rows_length, pcs_length, er_ok, er_ok', ep_ok, ep_ok', dr_er, dp_ep, isRows_rows, isPcs_pcs, toRows_rows, toPcs_pcs, rows_take, rows_drop, pcs_take, pcs_drop, rows_append, pcs_append, ints_length, isInts_ints, toInts_ints, ei_i, ei_ok, mk_headD, ints_take, ints_drop, ints_append, ints_snoc, ints_snoc', List.take_length, Nat.zero_add, Nat.le_refl, er_a, er_b, er_k, er_n, er_s, er_v, ep_a, ep_b, ep_hk, ep_hn, ep_hs, ep_wk, ep_wn, ep_ws, w1, w2, hk1, hk0, q1, q2, hget k hk0, hget (k + 1) hk1, ei_take1, ei_len, ei_mk, hd, yoHd, eqb_pair, List.tail_cons]
        have hul : u.length = m := by rw [hm, List.length_take, hes]; omega
        cases t with
        | false =>
          left
          refine ⟨u.drop (k + 1), ⟨rfl, by omega, fun h => by cases h⟩, ?_⟩
          simp [yoAns]
        | true =>
          by_cases hlast : k + 1 = m
          · right
            have hnil : u.drop (k + 1) = [] := List.drop_of_length_le (by omega)
            refine ⟨x53_1x0 nl tt (rows x) nl2 t2 (rows y) (encP (bs.getD k 0, bs.getD (k + 1) 0) :: u.drop (k + 1)) true bs.length (k + 1 : Nat) (ints (compL zs)), by simp, ?_, ?_⟩
            · rw [k53_1x0, fd_leaf, List.tail_cons, hnil]
            · simp [yoAns, hnil]
          · left
            have hne : (u.drop (k + 1)).isEmpty = false := by
              rw [List.isEmpty_eq_false_iff]
              intro h
              have := congrArg List.length h
              rw [List.length_drop] at this
              simp at this; omega
            refine ⟨u.drop (k + 1), ⟨rfl, by omega, fun _ => by omega⟩, ?_⟩
            simp [yoAns, hne]
      · rintro _ ⟨rfl, h2, h3⟩
        have ht : t = false := by
          cases t with
          | false => rfl
          | true => have := h3 rfl; have := (hm2 rfl).2; omega
        subst ht
        have hul : u.length = m := by rw [hm, List.length_take, hes]; have := hut rfl; omega
        have hnil : u.drop (bs.length - 1) = [] := List.drop_of_length_le (by have := hut rfl; omega)
        rw [t53_1, hnil]
        have c0 : ¬ ((((bs.length - 1 : Nat) : Int) + 1) < (bs.length : Int)) := by omega
        refine ⟨x53_1x1 nl tt (rows x) nl2 t2 (rows y) [] false bs.length (((bs.length - 1 : Nat) : Int) + 1) (ints (compL zs)), by simp, ?_, by simp only [ld_br, ld_chk', ld_leaf, decide_eq_true_eq, c0, if_false, if_true]⟩
        rw [k53_1x1, fd_leaf])
def s31 : CSpec := fun a h => match a, h with
  | [.c (.sl 5 nl t xs), .c (.sl 5 nl2 t2 ys)], [] => some ([], [V.fn 53 [V.ptr 0 0 0 0, V.ptr 1 0 0 0]], [O.box [V.c (C.sl 5 nl t xs)], O.box [V.c (C.sl 5 nl2 t2 ys)]])
  | _, _ => none
theorem s31_ok : CSpecOk E 31 s31 := by
  intro a h cs vals h' he hc
  unfold s31 at he
  split at he <;> simp only [Option.some.injEq, Prod.mk.injEq, reduceCtorEq] at he
  obtain ⟨rfl, rfl, rfl⟩ := he
  refine call_of (E := E) (sh := sh) (ct := ctOf []) (na := 2) (m := 0) ctOf_nil rfl rfl rfl rfl rfl rfl ?_
  rw [t31, fd_leaf]
end Go.Proofs.YtedniogmjhhhmaaDoor
