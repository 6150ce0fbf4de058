/-
  Chapter 02 (span): the laws, but for their arguments' reading: SpanOne.
-/
import Derived.Test.YtedniogmjhhhmaaDoorSL2
set_option linter.all false
set_option linter.unusedSimpArgs false
set_option linter.unusedVariables false
namespace Go.Proofs.YtedniogmjhhhmaaDoor
open Go Go.Ev

theorem er_t0 (r : Row) : List.take 1 (List.drop 0 (er r)) = [C.int .i64 r.a] := rfl
theorem er_t0' (r : Row) : List.take 1 (er r) = [C.int .i64 r.a] := rfl
def eqAt (x y : List Row) (z : Row) : Bool := decide (atP x z.a = atP y z.a) && decide (atP x z.b = atP y z.b)
theorem tells_next {f g : Int → Val} : ∀ {l : List Piece} {c d : Int}, tells f g c l d → ∀ k (h : k + 1 < l.length), (l[k]'(by omega)).b ≤ (l[k + 1]).a
  | [], _, _, _, k, h => by simp at h
  | p :: r, c, d, h, k, hk => by
    cases k with
    | zero =>
      cases r with
      | nil => simp at hk
      | cons q s => exact h.2.2.2.2.2.1
    | succ k => exact tells_next h.2.2.2.2.2 k (by simpa using hk)
theorem all_eq {x y : List Row} (hx : right x = true) (hy : right y = true) : ((x ++ y).all (eqAt x y)) = decide (x = y) := by
  rw [Bool.eq_iff_iff, List.all_eq_true, decide_eq_true_eq]
  constructor
  · intro h
    refine eq_of_times (right_okN hx) (right_okN hy) fun c hc => ?_
    have key : ∀ z ∈ x ++ y, hadF x z.a = hadF y z.a ∧ hadF x z.b = hadF y z.b := fun z hz => by
      have := h z hz
      simp only [eqAt, Bool.and_eq_true, decide_eq_true_eq, atP_had hx, atP_had hy] at this
      exact this
    have tm : ∀ {l : List Row} {c : Int}, c ∈ timesOf l → ∃ z ∈ l, c = z.a ∨ c = z.b := fun hc => by
      obtain ⟨z, hz, h⟩ := List.mem_flatMap.1 hc
      simp at h
      exact ⟨z, hz, h⟩
    rcases hc with hc | hc
    · obtain ⟨z, hz, e⟩ := tm hc
      obtain ⟨k1, k2⟩ := key z (by simp [hz])
      rcases e with rfl | rfl
      · exact k1
      · exact k2
    · obtain ⟨z, hz, e⟩ := tm hc
      obtain ⟨k1, k2⟩ := key z (by simp [hz])
      rcases e with rfl | rfl
      · exact k1
      · exact k2
  · rintro rfl z _
    simp [eqAt]
theorem f3 (x y : List Row) : call E 3 [.c (.sl 5 none false (rows x)), .c (.sl 5 none false (rows y))] [] = some ([V.b true], []) := by
  refine call_of (E := E) (sh := sh) (ct := ctL) (na := 2) (m := 0) ctL_ok rfl rfl rfl rfl rfl rfl ?_
  rw [t3]
  have ht : List.take 0 ([] : List (List C)) = [] := rfl
  simp only [fd_br, fd_chk', fd_leaf, isRows_rows, if_true, toRows_rows, rows_length, few_fold, checkR_ne, ht, List.nil_append, Nat.zero_add, take_self]
  cases hf : fewL x
  · simp
  cases hg : fewL y
  · simp
  cases hx : right x
  · simp
  cases hy : right y
  · simp
  have lx := right_len hx
  have ly := right_len hy
  have ld := diffR_len x y
  simp only [Bool.not_true, Bool.false_eq_true, if_false, show x.length < 4294967296 by omega, show x.length + y.length < 4294967296 by omega, decide_true, if_true]
  rw [rows_append]
  have hzl : (x ++ y).length = x.length + y.length := by simp
  rw [← hzl]
  obtain ⟨c, d, htl, _⟩ := diff_tells hx hy
  have hall := all_eq hx hy
  generalize hz : x ++ y = zs at *
  have hzb : zs.length ≤ 200 := by omega
  refine fd_post ctL_ok (by kernel_rfl) rfl (list_post (p := p3) ctL_ok (b := b3_0) zs.length (fun k (b : Bool) => s3_0 (rows x) (rows y) none false none false b zs.length k (rows zs)) (fun k b => b = (zs.take k).all (eqAt x y)) _ ?_ ?_ 0 (Nat.zero_le _) true (by simp))
  · rintro k b hk hb
    have hs : (zs.take (k + 1)).all (eqAt x y) = (b && eqAt x y zs[k]) := by
      rw [List.take_succ, List.getElem?_eq_getElem hk, hb]; simp only [List.all_append, Option.toList_some, List.all_cons, List.all_nil, Bool.and_true]
    rw [t3_0]
    simp only [ld_br, ld_chk', ld_leaf, fd_br, fd_chk', fd_leaf, decide_true, decide_eq_true_eq, if_true, Int.toNat_natCast, Int.natCast_nonneg, Int.ofNat_lt, Int.ofNat_le, Bool.false_eq_true, if_false, bne_iff_ne, beq_iff_eq, ne_eq, not_true_eq_false, not_false_eq_true, Bool.not_eq_true', decide_eq_false_iff_not, reduceCtorEq, rows_length, pcs_length, er_ok, er_ok', ep_ok, ep_ok', dr_er, dp_ep, isRows_rows, isPcs_pcs, toRows_rows, toPcs_pcs, rows_take, rows_drop, pcs_take, pcs_drop, rows_append, pcs_append, ints_length, isInts_ints, toInts_ints, ei_i, ei_ok, mk_headD, ints_take, ints_drop, ints_append, ints_snoc, ints_snoc', List.take_length, Nat.zero_add, Nat.le_refl, er_a, er_b, er_k, er_n, er_s, er_v, ep_a, ep_b, ep_hk, ep_hn, ep_hs, ep_wk, ep_wn, ep_ws, hk, rows_getD hk, er_t0, er_t0', er_t1, er_len, ok1, List.headD_cons, ci, Nat.reduceAdd, Nat.reduceLeDiff, wrap_succ (show k < 9223372036854775807 by omega), val_eqb, show x.length ≤ 4294967296 by omega, show y.length ≤ 4294967296 by omega, List.drop_zero]
    left
    refine ⟨_, hs.symm, ?_⟩
    unfold eqAt
    cases b with
    | false => simp
    | true =>
      by_cases h1 : atP x zs[k].a = atP y zs[k].a
      · by_cases h2 : atP x zs[k].b = atP y zs[k].b
        · simp [h1, h2]
        · simp [h1, h2]
      · simp [h1]
  · rintro b hb
    rw [List.take_length, hall] at hb
    rw [t3_0]
    refine ⟨x3_0x0 (rows x) (rows y) none false none false b zs.length zs.length (rows zs), by simp, ?_, by simp only [ld_br, ld_chk', ld_leaf, fd_br, fd_chk', fd_leaf, decide_true, decide_eq_true_eq, if_true, Int.toNat_natCast, Int.natCast_nonneg, Int.ofNat_lt, Int.ofNat_le, Bool.false_eq_true, if_false, bne_iff_ne, beq_iff_eq, ne_eq, not_true_eq_false, not_false_eq_true, Bool.not_eq_true', decide_eq_false_iff_not, reduceCtorEq, rows_length, pcs_length, er_ok, er_ok', ep_ok, ep_ok', dr_er, dp_ep, isRows_rows, isPcs_pcs, toRows_rows, toPcs_pcs, rows_take, rows_drop, pcs_take, pcs_drop, rows_append, pcs_append, ints_length, isInts_ints, toInts_ints, ei_i, ei_ok, mk_headD, ints_take, ints_drop, ints_append, ints_snoc, ints_snoc', List.take_length, Nat.zero_add, Nat.le_refl, er_a, er_b, er_k, er_n, er_s, er_v, ep_a, ep_b, ep_hk, ep_hn, ep_hs, ep_wk, ep_wn, ep_ws, Int.lt_irrefl]⟩
    rw [k3_0x0]
    simp only [fd_chk', isRows_rows, if_true, toRows_rows]
    have hnil := diff_nil hx hy
    generalize hds : diffR x y = ds at *
    refine fd_post ctL_ok (by kernel_rfl) rfl (list_post (p := p3) ctL_ok (b := b3_1) ds.length (fun k (_ : Unit) => s3_1 (rows x) (rows y) none false none false b none false (pcs ds) k) (fun _ _ => True) _ ?_ ?_ 0 (Nat.zero_le _) () trivial)
    · intro k _ hk _
      have hm := tells_mem htl ds[k] (List.getElem_mem hk)
      obtain ⟨a1, a2⟩ := hm.2.2 ds[k].a (Int.le_refl _) hm.2.1
      have e1 : atP x ds[k].a = ds[k].h := by rw [atP_had hx]; exact a1
      have e2 : atP y ds[k].a = ds[k].w := by rw [atP_had hy]; exact a2
      rw [t3_1]
      simp only [ld_br, ld_chk', ld_leaf, fd_br, fd_chk', fd_leaf, decide_true, decide_eq_true_eq, if_true, Int.toNat_natCast, Int.natCast_nonneg, Int.ofNat_lt, Int.ofNat_le, Bool.false_eq_true, if_false, bne_iff_ne, beq_iff_eq, ne_eq, not_true_eq_false, not_false_eq_true, Bool.not_eq_true', decide_eq_false_iff_not, reduceCtorEq, rows_length, pcs_length, er_ok, er_ok', ep_ok, ep_ok', dr_er, dp_ep, isRows_rows, isPcs_pcs, toRows_rows, toPcs_pcs, rows_take, rows_drop, pcs_take, pcs_drop, rows_append, pcs_append, ints_length, isInts_ints, toInts_ints, ei_i, ei_ok, mk_headD, ints_take, ints_drop, ints_append, ints_snoc, ints_snoc', List.take_length, Nat.zero_add, Nat.le_refl, er_a, er_b, er_k, er_n, er_s, er_v, ep_a, ep_b, ep_hk, ep_hn, ep_hs, ep_wk, ep_wn, ep_ws, hk, pcs_getD hk, wrap_succ (show k < 9223372036854775807 by omega), val_eqb, show x.length ≤ 4294967296 by omega, show y.length ≤ 4294967296 by omega, e1, e2, hm.1]
      left
      refine ⟨(), trivial, ?_⟩
      cases k with
      | zero => simp
      | succ k =>
        have hk' : k < ds.length := by omega
        have hn := tells_next htl k hk
        have hw2 : IntKind.wrap .i64 (((k + 1 : Nat) : Int) - 1) = (k : Int) := by rw [wrap_same (by omega) (by omega)]; omega
        have hpos : (0 : Int) < ((k + 1 : Nat) : Int) := by omega
        simp only [hpos, if_true, hw2, Int.natCast_nonneg, Int.toNat_natCast, hk', pcs_getD hk', ep_ok', ep_a, ep_b]
        rw [if_neg (by omega)]
    · intro _ _
      rw [t3_1]
      refine ⟨x3_1x1 (rows x) (rows y) none false none false b none false (pcs ds) ds.length, by simp, ?_, by simp only [ld_br, ld_chk', ld_leaf, fd_br, fd_chk', fd_leaf, decide_true, decide_eq_true_eq, if_true, Int.toNat_natCast, Int.natCast_nonneg, Int.ofNat_lt, Int.ofNat_le, Bool.false_eq_true, if_false, bne_iff_ne, beq_iff_eq, ne_eq, not_true_eq_false, not_false_eq_true, Bool.not_eq_true', decide_eq_false_iff_not, reduceCtorEq, rows_length, pcs_length, er_ok, er_ok', ep_ok, ep_ok', dr_er, dp_ep, isRows_rows, isPcs_pcs, toRows_rows, toPcs_pcs, rows_take, rows_drop, pcs_take, pcs_drop, rows_append, pcs_append, ints_length, isInts_ints, toInts_ints, ei_i, ei_ok, mk_headD, ints_take, ints_drop, ints_append, ints_snoc, ints_snoc', List.take_length, Nat.zero_add, Nat.le_refl, er_a, er_b, er_k, er_n, er_s, er_v, ep_a, ep_b, ep_hk, ep_hn, ep_hs, ep_wk, ep_wn, ep_ws, Nat.lt_irrefl]⟩
      rw [k3_1x1]
      have hlen : ((ds.length : Int) == 0) = decide (x = y) := by
        rw [Bool.eq_iff_iff, beq_iff_eq, decide_eq_true_eq, ← hnil]
        constructor
        · intro h; exact List.eq_nil_of_length_eq_zero (by omega)
        · intro h; rw [h]; rfl
      simp [fd_br, fd_chk', fd_leaf, hb, hlen, show x.length < 4294967296 by omega]
end Go.Proofs.YtedniogmjhhhmaaDoor
