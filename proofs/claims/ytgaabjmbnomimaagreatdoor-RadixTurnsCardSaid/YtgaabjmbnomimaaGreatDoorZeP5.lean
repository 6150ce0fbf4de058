/-
  Chapter 09 (radix): Between's walk; Under, Between; Begins; Trees, written by a program: what is the same: rows, tries, entries, texts; What is the same: rows, tries, entries, texts; Chapter 11 (delta), trees, written by a program: what comes of a path; right trees; sides; Chapter 11 (delta), trees, written by a program: what sides hands over; Chapter 11, plain: merges, changes, and what follows of them; Chapter 11 (delta), trees, written by a program: Merge, Changes; Chapter 11 (delta): Merge, Changes; Chapter 11 (delta), trees, written by a program: what is small; Chapter 11 (delta): small t.
-/
import Derived.Test.YtgaabjmbnomimaaGreatDoorZqP1
set_option linter.all false
namespace Go.Proofs.YtgaabjmbnomimaaGreatDoor
open Go Go.Ev
def boxB (pf pt q s : Bys) (rn : OBo) (rt : Bool) (xs : LLC) (kn : OBo) (kt : Bool) (ys : LLC) : Hp := [.box [.c (.str q)], .box [.c (.str s), .c (.sl 5 rn rt xs), .c (.sl 3 kn kt ys)], .box [.fn 83 [.fp [.str pf], .fp [.str pt]]]]
theorem sq166b_ok (pf pt q s : Bys) (rn : OBo) (rt : Bool) (rs : List Row) (kn : OBo) (kt : Bool) (ks : List Nd) :
    E.seq 176 [.yl 3, .ptr 0 0 0 0, .ptr 1 0 0 0, .ptr 2 0 0 0] (boxB pf pt q s rn rt (rows rs) kn kt (encL ks)) = some ((walkT (alB pf pt) q (.node s rs ks)).map encE) := by
  have : sq 176 [.yl 3, .ptr 0 0 0 0, .ptr 1 0 0 0, .ptr 2 0 0 0] (boxB pf pt q s rn rt (rows rs) kn kt (encL ks)) = some ((walkT (alB pf pt) q (.node s rs ks)).map encE) := by
    simp only [sq, sq176, boxB, alongP, toRows_rows, decL_enc]
  exact this
set_option maxHeartbeats 1000000 in
theorem f166b (pf pt : Bys) : ∀ (d : Nat) (q s : Bys) (rn : OBo) (rt : Bool) (rs : List Row) (kn : OBo) (kt : Bool) (ks : List Nd) (n : Nat), depL ks < d → q.length + s.length + n ≤ 24 → kidsOk ks n → right rs = true → (rn ≠ some true ∨ rs = []) →
    ∀ (u : List (List V)) (b : Bool), Want ((walkT (alB pf pt) q (.node s rs ks)).map encE) u b →
    call E 176 args166 (boxB pf pt q s rn rt (rows rs) kn kt (encL ks) ++ [.yo u b]) = some ([], boxB pf pt q s rn rt (rows rs) kn kt (encL ks) ++ [.yo [] b])
  | 0, _, _, _, _, _, _, _, _, _, h, _, _, _, _, _, _, _ => by omega
  | d + 1, q, s, rn, rt, rs, kn, kt, ks, n, hd, hl, hk, hr, hn, u, b, hw => by
    have hct : (ctOf [(83, s83), (78, s78), (138, s134b)]).ok E := ctOf_cons s83_ok (ctOf_cons s78_ok (ctOf_cons s134b_ok ctOf_nil))
    refine call_of (E := E) (sh := sh) (ct := ctOf [(83, s83), (78, s78), (138, s134b)]) (na := 4) (m := 4) hct rfl rfl rfl rfl rfl rfl ?_
    show p166b.fd (p166b.ft [.yl 3, .ptr 0 0 0 0, .ptr 1 0 0 0, .ptr 2 0 0 0] [.box [.c (.str q)], .box [.c (.str s), .c (.sl 5 rn rt (rows rs)), .c (.sl 3 kn kt (encL ks))], .box [.fn 83 [.fp [.str pf], .fp [.str pt]]], .yo u b]) =
      some (.out [] [.box [.c (.str q)], .box [.c (.str s), .c (.sl 5 rn rt (rows rs)), .c (.sl 3 kn kt (encL ks))], .box [.fn 83 [.fp [.str pf], .fp [.str pt]]], .yo [] b])
    rw [t166b, encL_length]
    have hkl := okL_len (okL_iff'.2 hk) (by omega)
    have hrl := right_len4 hr
    have hn' : rn ≠ some true ∨ rows rs = [] := hn.imp id fun h => by rw [h]; rfl
    have hql : q.length + s.length < 4294967296 := by omega
    cases cal : alB pf pt (q ++ s) with
    | false =>
      rw [walkT_eq, cal] at hw
      obtain ⟨rfl, rfl⟩ := want_nil hw
      simp only [nd_ok, nd_lab, nd_rows, nd_kids, encL_length, isL_enc, decL_enc, wrap_hd, hd_pos, ld_br, ld_chk', ld_leaf, fd_br, fd_chk', fd_leaf, decide_true, decide_eq_true_eq, if_true, Int.toNat_natCast, Int.natCast_nonneg, Int.ofNat_lt, Int.ofNat_le, Bool.false_eq_true, if_false, bne_iff_ne, beq_iff_eq, ne_eq, not_true_eq_false, not_false_eq_true, Bool.not_eq_true', decide_eq_false_iff_not, reduceCtorEq, rows_length, pcs_length, er_ok, er_ok', ep_ok, ep_ok', dr_er, dp_ep, isRows_rows, isPcs_pcs, toRows_rows, toPcs_pcs, rows_take, rows_drop, pcs_take, pcs_drop, rows_append, pcs_append, ints_length, isInts_ints, toInts_ints, ei_i, ei_ok, mk_headD, ints_take, ints_drop, ints_append, ints_snoc, ints_snoc', List.take_length, Nat.zero_add, Nat.le_refl, er_a, er_b, er_k, er_n, er_s, er_v, ep_a, ep_b, ep_hk, ep_hn, ep_hs, ep_wk, ep_wn, ep_ws, hql, cal, Bool.not_false, if_true]
    | true =>
    rw [walkT_eq, cal] at hw
    simp only [cond_true] at hw
    obtain ⟨m, hu, hm0, hm1, hm2⟩ := want_take hw
    generalize hes : (ownW (q ++ s) rs ++ walkL (alB pf pt) (q ++ s) ks).map encE = es at *
    have hesl : es.length = (ownW (q ++ s) rs).length + (walkL (alB pf pt) (q ++ s) ks).length := by rw [← hes]; simp
    have at0 : At u b m 0 u := ⟨rfl, Nat.zero_le _, fun h => hm2 h⟩
    -- the kids
    have key : ∀ r : List (List V), At u b m (ownW (q ++ s) rs).length r → p166b.fd (Tr.ls 0 (s166b_0v pf pt q s rn rt (rows rs) kn kt (encL ks) r b (q ++ s) ks.length 0)) =
        some (.out [] [.box [.c (.str q)], .box [.c (.str s), .c (.sl 5 rn rt (rows rs)), .c (.sl 3 kn kt (encL ks))], .box [.fn 83 [.fp [.str pf], .fp [.str pt]]], .yo [] b]) := by
      intro r hat
      refine fd_post hct (by kernel_rfl) rfl (list_post (p := p166b) hct (b := b166b_0v) ks.length (fun k (r : List (List V)) => s166b_0v pf pt q s rn rt (rows rs) kn kt (encL ks) r b (q ++ s) ks.length k) (fun k r => At u b m ((ownW (q ++ s) rs).length + (walkL (alB pf pt) (q ++ s) (ks.take k)).length) r) _ ?_ ?_ 0 (Nat.zero_le _) r (by simpa [walkL] using hat))
      · intro k r hk2 hat
        have hT := hk.1 _ (List.getElem_mem hk2)
        obtain ⟨g1, g2, g9003, g9004, g9005⟩ := okT_iff.1 hT
        have hkid : depL ks[k].kids < d := by have := depL_kid (List.getElem_mem hk2); omega
        have hnx := walkL_take (alB pf pt) (q ++ s) hk2
        have hle := walkL_take_le (alB pf pt) (q ++ s) ks (k + 1)
        have hesk : ∀ j, (hj : j < (walkT (alB pf pt) (q ++ s) ks[k]).length) → es[(ownW (q ++ s) rs).length + (walkL (alB pf pt) (q ++ s) (ks.take k)).length + j]? = some (encE (walkT (alB pf pt) (q ++ s) ks[k])[j]) := fun j hj => by
          rw [← hes, List.getElem?_map, List.getElem?_append_right (by omega)]
          have e0 : walkL (alB pf pt) (q ++ s) ks = walkL (alB pf pt) (q ++ s) (ks.take (k + 1)) ++ walkL (alB pf pt) (q ++ s) (ks.drop (k + 1)) := by rw [← walkL_app, List.take_append_drop]
          rw [e0, hnx, List.append_assoc, List.getElem?_append_right (by omega), List.getElem?_append_left (by omega)]
          have e1 : (ownW (q ++ s) rs).length + (walkL (alB pf pt) (q ++ s) (ks.take k)).length + j - (ownW (q ++ s) rs).length - (walkL (alB pf pt) (q ++ s) (ks.take k)).length = j := by omega
          rw [e1, List.getElem?_eq_getElem hj]; rfl
        rw [hnx, List.length_append] at hle
        have hin := ranges_post (p := p166b) hct (c := b166b_0v_0) (gi := 176) (caps := [.ptr 6 0 0 0, .ptr 5 0 0 0, .ptr 7 0 0 0]) (args := args166)
          (s0 := s166b_0v_0 pf pt q s rn rt (rows rs) kn kt (encL ks) r b (q ++ s) ks.length k ks[k].lab none false (rows ks[k].rows) none false (encL ks[k].kids))
          (h0 := boxB pf pt (q ++ s) ks[k].lab none false (rows ks[k].rows) none false (encL ks[k].kids)) (ids := [6, 5, 7]) (by kernel_rfl) (walkT (alB pf pt) (q ++ s) ks[k]) encE rfl (by kernel_rfl)
          (by have := sq166b_ok pf pt (q ++ s) ks[k].lab none false ks[k].rows none false ks[k].kids; rw [Nd.eta] at this; exact this)
          (fun u' b' hw' => ⟨_, _, f166b pf pt d (q ++ s) ks[k].lab none false ks[k].rows none false ks[k].kids (n - ks[k].lab.length) hkid (by rw [List.length_append]; omega) g9005 g9003 (.inl (by simp)) u' b' (by rw [Nd.eta]; exact hw'), rfl⟩)
          (fun (r : List (List V)) => g166b_0v_0 pf pt q s rn rt (rows rs) kn kt (encL ks) r b (q ++ s) ks.length k)
          (fun (l : List Ent) r => ∃ j, l = (walkT (alB pf pt) (q ++ s) ks[k]).drop j ∧ j ≤ (walkT (alB pf pt) (q ++ s) ks[k]).length ∧ At u b m ((ownW (q ++ s) rs).length + (walkL (alB pf pt) (q ++ s) (ks.take k)).length + j) r)
          (fun y => (∃ r', At u b m ((ownW (q ++ s) rs).length + (walkL (alB pf pt) (q ++ s) (ks.take (k + 1))).length) r' ∧ p166b.ld b166b_0v (p166b.lkx b166b_0v 0 y) = some (R.s (s166b_0v pf pt q s rn rt (rows rs) kn kt (encL ks) r' b (q ++ s) ks.length ((k + 1 : Nat) : Int)))) ∨
            (∃ x : Ex × Fr × Hp, x.1 ≠ .nrm ∧ p166b.fd (p166b.fkx 0 x) = some (.out [] [.box [.c (.str q)], .box [.c (.str s), .c (.sl 5 rn rt (rows rs)), .c (.sl 3 kn kt (encL ks))], .box [.fn 83 [.fp [.str pf], .fp [.str pt]]], .yo [] b]) ∧ p166b.ld b166b_0v (p166b.lkx b166b_0v 0 y) = some (R.x x)))
          (by
            rintro ⟨p, prs⟩ l r ⟨j, hj, hjl, hat⟩
            have hj2 : j < (walkT (alB pf pt) (q ++ s) ks[k]).length := by
              rcases Nat.lt_or_ge j (walkT (alB pf pt) (q ++ s) ks[k]).length with h | h
              · exact h
              · rw [List.drop_of_length_le h] at hj; cases hj
            rw [List.drop_eq_getElem_cons hj2] at hj
            simp only [List.cons.injEq] at hj
            obtain ⟨hj3, rfl⟩ := hj
            have hee := hesk j hj2
            rw [← hj3] at hee
            obtain ⟨hc1, hc2⟩ := List.getElem?_eq_some_iff.1 hee
            obtain ⟨_, hr1, hr2, hr3⟩ := hat.next hu hm0 hm1 hc1
            rw [hc2] at hr1
            have hrd : p166b.rds b166b_0v_0 (g166b_0v_0 pf pt q s rn rt (rows rs) kn kt (encL ks) r b (q ++ s) ks.length k) (p166b.rts b166b_0v_0 (encE (p, prs)) (g166b_0v_0 pf pt q s rn rt (rows rs) kn kt (encL ks) r b (q ++ s) ks.length k)) =
                (if (!yoAns r b) = true then some (R.x (x166b_0v_0x0 pf pt q s rn rt (rows rs) kn kt (encL ks) r b (q ++ s) ks.length k p (rows prs) none)) else some (R.s (g166b_0v_0 pf pt q s rn rt (rows rs) kn kt (encL ks) r.tail b (q ++ s) ks.length k))) := by
              refine (congrArg _ (t166b_0v_0 pf pt q s rn rt (rows rs) kn kt (encL ks) r b (q ++ s) ks.length k p (rows prs))).trans ?_
              have hyo : yoHd r [V.agg [V.c (C.str p), V.c (C.sl 5 none false (rows prs))]] = true := by rw [hr1]; exact eqb_encE p prs
              rw [rd_chk', if_pos hyo, rd_br, rd_leaf, rd_leaf]
            rcases hr3 with ⟨h1, h2⟩ | ⟨h1, h2, h3⟩
            · left
              refine ⟨r.tail, ⟨j + 1, rfl, by omega, ?_⟩, ?_⟩
              · rw [← Nat.add_assoc]; exact h2
              · rw [hrd, h1]; rfl
            · right
              refine ⟨x166b_0v_0x0 pf pt q s rn rt (rows rs) kn kt (encL ks) r b (q ++ s) ks.length k p (rows prs) none, by simp, .inr ⟨x166b_0vx0 pf pt q s rn rt (rows rs) kn kt (encL ks) r b (q ++ s) ks.length k p (rows prs) none, by simp, ?_, ?_⟩, ?_⟩
              · rw [k166b_0vx0, fd_leaf, h2]
              · rw [k166b_0v_0x0, ld_leaf]
              · rw [hrd, h1]; rfl)
          (by
            rintro r ⟨j, hj, hjl, hat⟩
            have hj2 : j = (walkT (alB pf pt) (q ++ s) ks[k]).length := by
              rcases Nat.lt_or_ge j (walkT (alB pf pt) (q ++ s) ks[k]).length with h | h
              · rw [List.drop_eq_getElem_cons h] at hj; cases hj
              · omega
            subst hj2
            left
            refine ⟨r, by rw [hnx, List.length_append, ← Nat.add_assoc]; exact hat, ?_⟩
            show p166b.ld b166b_0v (p166b.lkx b166b_0v 0 (x166b_0v_0n pf pt q s rn rt (rows rs) kn kt (encL ks) r b (q ++ s) ks.length k)) = _
            rw [k166b_0v_0n, ld_leaf, wrap_succ (by omega)])
          r rfl ⟨0, by simp, Nat.zero_le _, by simpa using hat⟩
        rw [t166b_0v]
        simp only [nd_ok, nd_lab, nd_rows, nd_kids, encL_length, isL_enc, decL_enc, wrap_hd, hd_pos, ld_br, ld_chk', ld_leaf, fd_br, fd_chk', fd_leaf, decide_true, decide_eq_true_eq, if_true, Int.toNat_natCast, Int.natCast_nonneg, Int.ofNat_lt, Int.ofNat_le, Bool.false_eq_true, if_false, bne_iff_ne, beq_iff_eq, ne_eq, not_true_eq_false, not_false_eq_true, Bool.not_eq_true', decide_eq_false_iff_not, reduceCtorEq, rows_length, pcs_length, er_ok, er_ok', ep_ok, ep_ok', dr_er, dp_ep, isRows_rows, isPcs_pcs, toRows_rows, toPcs_pcs, rows_take, rows_drop, pcs_take, pcs_drop, rows_append, pcs_append, ints_length, isInts_ints, toInts_ints, ei_i, ei_ok, mk_headD, ints_take, ints_drop, ints_append, ints_snoc, ints_snoc', List.take_length, Nat.zero_add, Nat.le_refl, er_a, er_b, er_k, er_n, er_s, er_v, ep_a, ep_b, ep_hk, ep_hn, ep_hs, ep_wk, ep_wn, ep_ws, hk2, encL_getD hk2]
        obtain ⟨y, hy, hR⟩ := hin
        rcases hy with ⟨r', h1, h2⟩ | ⟨x, h1, h2, h3⟩
        · exact .inl ⟨r', h1, ld_rpost hct (by kernel_rfl) rfl ⟨y, h2, hR⟩⟩
        · exact .inr ⟨x, h1, h2, ld_rpost hct (by kernel_rfl) rfl ⟨y, h3, hR⟩⟩
      · intro r hat
        rw [List.take_length, ← hesl] at hat
        obtain ⟨rfl, rfl⟩ := hat.end_ hu hm0 rfl
        rw [t166b_0v]
        exact ⟨x166b_0vx1 pf pt q s rn rt (rows rs) kn kt (encL ks) [] false (q ++ s) ks.length ks.length, by simp, by rw [k166b_0vx1, fd_leaf], by simp only [nd_ok, nd_lab, nd_rows, nd_kids, encL_length, isL_enc, decL_enc, wrap_hd, hd_pos, ld_br, ld_chk', ld_leaf, fd_br, fd_chk', fd_leaf, decide_true, decide_eq_true_eq, if_true, Int.toNat_natCast, Int.natCast_nonneg, Int.ofNat_lt, Int.ofNat_le, Bool.false_eq_true, if_false, bne_iff_ne, beq_iff_eq, ne_eq, not_true_eq_false, not_false_eq_true, Bool.not_eq_true', decide_eq_false_iff_not, reduceCtorEq, rows_length, pcs_length, er_ok, er_ok', ep_ok, ep_ok', dr_er, dp_ep, isRows_rows, isPcs_pcs, toRows_rows, toPcs_pcs, rows_take, rows_drop, pcs_take, pcs_drop, rows_append, pcs_append, ints_length, isInts_ints, toInts_ints, ei_i, ei_ok, mk_headD, ints_take, ints_drop, ints_append, ints_snoc, ints_snoc', List.take_length, Nat.zero_add, Nat.le_refl, er_a, er_b, er_k, er_n, er_s, er_v, ep_a, ep_b, ep_hk, ep_hn, ep_hs, ep_wk, ep_wn, ep_ws, Int.lt_irrefl]⟩
    have hrl2 : rs.length < 4294967296 := by omega
    simp only [nd_ok, nd_lab, nd_rows, nd_kids, encL_length, isL_enc, decL_enc, wrap_hd, hd_pos, ld_br, ld_chk', ld_leaf, fd_br, fd_chk', fd_leaf, decide_true, decide_eq_true_eq, if_true, Int.toNat_natCast, Int.natCast_nonneg, Int.ofNat_lt, Int.ofNat_le, Bool.false_eq_true, if_false, bne_iff_ne, beq_iff_eq, ne_eq, not_true_eq_false, not_false_eq_true, Bool.not_eq_true', decide_eq_false_iff_not, reduceCtorEq, rows_length, pcs_length, er_ok, er_ok', ep_ok, ep_ok', dr_er, dp_ep, isRows_rows, isPcs_pcs, toRows_rows, toPcs_pcs, rows_take, rows_drop, pcs_take, pcs_drop, rows_append, pcs_append, ints_length, isInts_ints, toInts_ints, ei_i, ei_ok, mk_headD, ints_take, ints_drop, ints_append, ints_snoc, ints_snoc', List.take_length, Nat.zero_add, Nat.le_refl, er_a, er_b, er_k, er_n, er_s, er_v, ep_a, ep_b, ep_hk, ep_hn, ep_hs, ep_wk, ep_wn, ep_ws, hql, hrl2, cal, Bool.not_true, Bool.false_eq_true, if_false]
    by_cases c : rs = []
    · subst c
      rw [if_neg (by simp)]
      exact key u at0
    · have c0 : (0 : Int) < rs.length := by have := List.length_pos_iff.2 c; omega
      obtain ⟨r0, rr, rfl⟩ : ∃ a r, rs = a :: r := by cases rs with | nil => exact absurd rfl c | cons a r => exact ⟨a, r, rfl⟩
      have ho : ownW (q ++ s) (r0 :: rr) = [(q ++ s, r0 :: rr)] := rfl
      have h0 : 0 < es.length := by rw [hesl, ho]; simp; omega
      have he0 : es[0] = encE (q ++ s, r0 :: rr) := by simp only [← hes, ho]; rfl
      obtain ⟨_, hr1, hr2, hr3⟩ := at0.next hu hm0 hm1 h0
      rw [he0] at hr1
      have hyo : yoHd u [V.agg [V.c (C.str (q ++ s)), V.c (C.sl 5 none false (rows (r0 :: rr)))]] = true := by rw [hr1]; exact eqb_encE _ _
      rw [if_pos c0]
      simp only [hn', hyo, if_true]
      rcases hr3 with ⟨h1, h2⟩ | ⟨h1, h2, h3⟩
      · rw [if_neg (by simp [h1])]
        exact key u.tail (by rw [ho]; exact h2)
      · rw [if_pos (by simp [h1]), h2]
theorem r81u (pf : Bys) (acc : List Ent) (p : Bys) (prs : List Row) (hlen : acc.length + 1 < 4294967296) :
    p81u.rds b81u_0 (g81u_0 pf (some true) true [] (ents acc) acc.length) (p81u.rts b81u_0 (encE (p, prs)) (g81u_0 pf (some true) true [] (ents acc) acc.length)) =
      some (R.s (g81u_0 pf (some true) true [] (ents (acc ++ cond (begins p pf) [(p, prs)] [])) (acc ++ cond (begins p pf) [(p, prs)] []).length)) := by
  refine (congrArg (p81u.rds b81u_0 _) (t81u_0 pf (some true) true [] (ents acc) acc.length p (rows prs))).trans ?_
  cases c : begins p pf with
  | false => simp only [rd_br, rd_leaf, Bool.false_eq_true, if_false, cond_false, List.append_nil]
  | true => simp only [rd_br, rd_chk', rd_leaf, if_true, hlen, decide_true, ents_take acc acc.length rfl, ents_snoc, List.length_append, List.length_singleton, cond_true]
theorem f81u (pf : Bys) (s : Bys) (rn : OBo) (rt : Bool) (rs : List Row) (kn : OBo) (kt : Bool) (ks : List Nd) (hn : (entL ks).length < 1000000000) :
    call E 80 [.agg [.c (.str s), .c (.sl 5 rn rt (rows rs)), .c (.sl 3 kn kt (encL ks))], .fn 79 [.fp [.str pf]], .fn 81 [.fp [.str pf]]] [] = some ([.c (.sl 2 none false (ents ((entP (.node s rs ks)).filter (fun e => begins e.1 pf))))], []) := by
  have hct : (ctOf [(48, s48), (138, s134u), (81, s81)]).ok E := ctOf_cons s48_ok (ctOf_cons s134u_ok (ctOf_cons s81_ok ctOf_nil))
  refine call_of (E := E) (sh := sh) (ct := ctOf [(48, s48), (138, s134u), (81, s81)]) (na := 3) (m := 0) hct rfl rfl rfl rfl rfl rfl ?_
  rw [t81u]
  simp only [nd_ok, nd_lab, nd_rows, nd_kids, encL_length, isL_enc, decL_enc, wrap_hd, hd_pos, ld_br, ld_chk', ld_leaf, fd_br, fd_chk', fd_leaf, decide_true, decide_eq_true_eq, if_true, Int.toNat_natCast, Int.natCast_nonneg, Int.ofNat_lt, Int.ofNat_le, Bool.false_eq_true, if_false, bne_iff_ne, beq_iff_eq, ne_eq, not_true_eq_false, not_false_eq_true, Bool.not_eq_true', decide_eq_false_iff_not, reduceCtorEq, rows_length, pcs_length, er_ok, er_ok', ep_ok, ep_ok', dr_er, dp_ep, isRows_rows, isPcs_pcs, toRows_rows, toPcs_pcs, rows_take, rows_drop, pcs_take, pcs_drop, rows_append, pcs_append, ints_length, isInts_ints, toInts_ints, ei_i, ei_ok, mk_headD, ints_take, ints_drop, ints_append, ints_snoc, ints_snoc', List.take_length, Nat.zero_add, Nat.le_refl, er_a, er_b, er_k, er_n, er_s, er_v, ep_a, ep_b, ep_hk, ep_hn, ep_hs, ep_wk, ep_wn, ep_ws, checkT_ne]
  rw [entP_node]
  cases c1 : okR (.node s rs ks) with
  | false => rfl
  | true =>
    have c1' := okR_iff.1 c1
    simp only [Nd.lab_node, Nd.rows_node, Nd.kids_node] at c1'
    obtain ⟨rfl, rfl, hk⟩ := c1'
    simp only [Bool.not_true, Bool.false_eq_true, if_false, cond_true]
    have hww := walk_want (alU pf) (fun x => begins x pf) (alU_ok pf) ks
    have hf : ∀ (u : List (List V)) (b : Bool), Want ((walkT (alU pf) [] (.node [] [] ks)).map encE) u b → call E 176 args166 (boxU pf [] [] rn rt (rows []) kn kt (encL ks) ++ [.yo u b]) = some ([], boxU pf [] [] rn rt (rows []) kn kt (encL ks) ++ [.yo [] b]) :=
      fun u b hw => f166u pf (depL ks + 1) [] [] rn rt [] kn kt ks 24 (Nat.lt_succ_self _) (by simp) hk rfl (.inr rfl) u b hw
    refine fd_rpost hct (by kernel_rfl) rfl (ranges_post (p := p81u) hct (c := b81u_0) (gi := 176) (caps := [.ptr 4 0 0 0, .ptr 3 0 0 0, .ptr 5 0 0 0]) (args := args166)
      (h0 := boxU pf [] [] rn rt (rows []) kn kt (encL ks)) (ids := [4, 3, 5]) (by kernel_rfl) (walkT (alU pf) [] (.node [] [] ks)) encE rfl (by kernel_rfl)
      (sq166u_ok pf [] [] rn rt [] kn kt ks)
      (fun u b hw => ⟨_, _, hf u b hw, rfl⟩)
      (fun (acc : List Ent) => g81u_0 pf (some true) true [] (ents (acc.filter (fun e => begins e.1 pf))) (acc.filter (fun e => begins e.1 pf)).length) (fun l acc => acc ++ l = walkT (alU pf) [] (.node [] [] ks)) _ ?_ ?_ [] rfl rfl)
    · rintro ⟨p, prs⟩ l acc hi
      left
      have hlen : (acc.filter (fun e => begins e.1 pf)).length + 1 < 4294967296 := by
        have h2 := List.length_filter_le (fun e : Ent => begins e.1 pf) (entL ks)
        have h3 := congrArg List.length (hi.symm ▸ hww : List.filter _ (acc ++ (p, prs) :: l) = _)
        simp only [List.filter_append, List.length_append] at h3; omega
      refine ⟨acc ++ [(p, prs)], by rw [← hi]; simp, ?_⟩
      have e1 : (acc ++ [(p, prs)]).filter (fun e => begins e.1 pf) = acc.filter (fun e => begins e.1 pf) ++ cond (begins p pf) [(p, prs)] [] := by
        rw [List.filter_append]; cases c : begins p pf <;> simp [c]
      have e2 := r81u pf _ p prs hlen
      rw [← e1] at e2
      exact e2
    · intro acc hi
      rw [List.append_nil] at hi
      subst hi
      show p81u.fd (p81u.fkx 0 (x81u_0n pf (some true) true [] (ents _) _)) = _
      rw [k81u_0n, fd_leaf, ents_take _ _ rfl, hww]
theorem r81b (pf pt : Bys) (acc : List Ent) (p : Bys) (prs : List Row) (hlen : acc.length + 1 < 4294967296) :
    p81b.rds b81b_0 (g81b_0 pf pt (some true) true [] (ents acc) acc.length) (p81b.rts b81b_0 (encE (p, prs)) (g81b_0 pf pt (some true) true [] (ents acc) acc.length)) =
      some (R.s (g81b_0 pf pt (some true) true [] (ents (acc ++ cond (wB pf pt p) [(p, prs)] [])) (acc ++ cond (wB pf pt p) [(p, prs)] []).length)) := by
  refine (congrArg (p81b.rds b81b_0 _) (t81b_0 pf pt (some true) true [] (ents acc) acc.length p (rows prs))).trans ?_
  cases c : wB pf pt p with
  | false => simp only [rd_br, rd_leaf, Bool.false_eq_true, if_false, cond_false, List.append_nil]
  | true => simp only [rd_br, rd_chk', rd_leaf, if_true, hlen, decide_true, ents_take acc acc.length rfl, ents_snoc, List.length_append, List.length_singleton, cond_true]
theorem f81b (pf pt : Bys) (s : Bys) (rn : OBo) (rt : Bool) (rs : List Row) (kn : OBo) (kt : Bool) (ks : List Nd) (hn : (entL ks).length < 1000000000) :
    call E 80 [.agg [.c (.str s), .c (.sl 5 rn rt (rows rs)), .c (.sl 3 kn kt (encL ks))], .fn 83 [.fp [.str pf], .fp [.str pt]], .fn 84 [.fp [.str pf], .fp [.str pt]]] [] = some ([.c (.sl 2 none false (ents ((entP (.node s rs ks)).filter (fun e => wB pf pt e.1))))], []) := by
  have hct : (ctOf [(48, s48), (138, s134b), (84, s84)]).ok E := ctOf_cons s48_ok (ctOf_cons s134b_ok (ctOf_cons s84_ok ctOf_nil))
  refine call_of (E := E) (sh := sh) (ct := ctOf [(48, s48), (138, s134b), (84, s84)]) (na := 3) (m := 0) hct rfl rfl rfl rfl rfl rfl ?_
  rw [t81b]
  simp only [nd_ok, nd_lab, nd_rows, nd_kids, encL_length, isL_enc, decL_enc, wrap_hd, hd_pos, ld_br, ld_chk', ld_leaf, fd_br, fd_chk', fd_leaf, decide_true, decide_eq_true_eq, if_true, Int.toNat_natCast, Int.natCast_nonneg, Int.ofNat_lt, Int.ofNat_le, Bool.false_eq_true, if_false, bne_iff_ne, beq_iff_eq, ne_eq, not_true_eq_false, not_false_eq_true, Bool.not_eq_true', decide_eq_false_iff_not, reduceCtorEq, rows_length, pcs_length, er_ok, er_ok', ep_ok, ep_ok', dr_er, dp_ep, isRows_rows, isPcs_pcs, toRows_rows, toPcs_pcs, rows_take, rows_drop, pcs_take, pcs_drop, rows_append, pcs_append, ints_length, isInts_ints, toInts_ints, ei_i, ei_ok, mk_headD, ints_take, ints_drop, ints_append, ints_snoc, ints_snoc', List.take_length, Nat.zero_add, Nat.le_refl, er_a, er_b, er_k, er_n, er_s, er_v, ep_a, ep_b, ep_hk, ep_hn, ep_hs, ep_wk, ep_wn, ep_ws, checkT_ne]
  rw [entP_node]
  cases c1 : okR (.node s rs ks) with
  | false => rfl
  | true =>
    have c1' := okR_iff.1 c1
    simp only [Nd.lab_node, Nd.rows_node, Nd.kids_node] at c1'
    obtain ⟨rfl, rfl, hk⟩ := c1'
    simp only [Bool.not_true, Bool.false_eq_true, if_false, cond_true]
    have hww := walk_want (alB pf pt) (fun x => wB pf pt x) (alB_ok pf pt) ks
    have hf : ∀ (u : List (List V)) (b : Bool), Want ((walkT (alB pf pt) [] (.node [] [] ks)).map encE) u b → call E 176 args166 (boxB pf pt [] [] rn rt (rows []) kn kt (encL ks) ++ [.yo u b]) = some ([], boxB pf pt [] [] rn rt (rows []) kn kt (encL ks) ++ [.yo [] b]) :=
      fun u b hw => f166b pf pt (depL ks + 1) [] [] rn rt [] kn kt ks 24 (Nat.lt_succ_self _) (by simp) hk rfl (.inr rfl) u b hw
    refine fd_rpost hct (by kernel_rfl) rfl (ranges_post (p := p81b) hct (c := b81b_0) (gi := 176) (caps := [.ptr 4 0 0 0, .ptr 3 0 0 0, .ptr 5 0 0 0]) (args := args166)
      (h0 := boxB pf pt [] [] rn rt (rows []) kn kt (encL ks)) (ids := [4, 3, 5]) (by kernel_rfl) (walkT (alB pf pt) [] (.node [] [] ks)) encE rfl (by kernel_rfl)
      (sq166b_ok pf pt [] [] rn rt [] kn kt ks)
      (fun u b hw => ⟨_, _, hf u b hw, rfl⟩)
      (fun (acc : List Ent) => g81b_0 pf pt (some true) true [] (ents (acc.filter (fun e => wB pf pt e.1))) (acc.filter (fun e => wB pf pt e.1)).length) (fun l acc => acc ++ l = walkT (alB pf pt) [] (.node [] [] ks)) _ ?_ ?_ [] rfl rfl)
    · rintro ⟨p, prs⟩ l acc hi
      left
      have hlen : (acc.filter (fun e => wB pf pt e.1)).length + 1 < 4294967296 := by
        have h2 := List.length_filter_le (fun e : Ent => wB pf pt e.1) (entL ks)
        have h3 := congrArg List.length (hi.symm ▸ hww : List.filter _ (acc ++ (p, prs) :: l) = _)
        simp only [List.filter_append, List.length_append] at h3; omega
      refine ⟨acc ++ [(p, prs)], by rw [← hi]; simp, ?_⟩
      have e1 : (acc ++ [(p, prs)]).filter (fun e => wB pf pt e.1) = acc.filter (fun e => wB pf pt e.1) ++ cond (wB pf pt p) [(p, prs)] [] := by
        rw [List.filter_append]; cases c : wB pf pt p <;> simp [c]
      have e2 := r81b pf pt _ p prs hlen
      rw [← e1] at e2
      exact e2
    · intro acc hi
      rw [List.append_nil] at hi
      subst hi
      show p81b.fd (p81b.fkx 0 (x81b_0n pf pt (some true) true [] (ents _) _)) = _
      rw [k81b_0n, fd_leaf, ents_take _ _ rfl, hww]
theorem s81u_ok : CSpecOk E 80 s81u := by
  intro a h cs vals h' he hc
  unfold s81u at he
  split at he <;> simp only [Option.some.injEq, Prod.mk.injEq, reduceCtorEq] at he
  obtain ⟨rfl, rfl, rfl⟩ := he
  simp only [allT, Bool.and_true, Bool.and_eq_true, decide_eq_true_eq] at hc
  obtain ⟨h0, h1, h2, h3⟩ := hc
  subst h0
  obtain ⟨rs, rfl⟩ := rows_ex h1
  obtain ⟨ks, rfl⟩ := isL_ex h2
  simp only [toRows_rows, decL_enc] at *
  exact f81u _ _ _ _ rs _ _ ks h3
theorem s81b_ok : CSpecOk E 80 s81b := by
  intro a h cs vals h' he hc
  unfold s81b at he
  split at he <;> simp only [Option.some.injEq, Prod.mk.injEq, reduceCtorEq] at he
  obtain ⟨rfl, rfl, rfl⟩ := he
  simp only [allT, Bool.and_true, Bool.and_eq_true, decide_eq_true_eq] at hc
  obtain ⟨h0, h00, h1, h2, h3⟩ := hc
  subst h0 h00
  obtain ⟨rs, rfl⟩ := rows_ex h1
  obtain ⟨ks, rfl⟩ := isL_ex h2
  simp only [toRows_rows, decL_enc] at *
  exact f81b _ _ _ _ _ rs _ _ ks h3
def s30 : CSpec := fun a h => match a, h with
  | [.agg [.c (.str s), .c (.sl 5 rn rt xs), .c (.sl 3 kn kt ys)], .c (.str pf)], [] => some ([isRows xs, isL ys, decide ((entL (decL ys)).length < 1000000000)], [.c (.sl 2 none false (ents ((entP (.node s (toRows xs) (decL ys))).filter (fun e => begins e.1 pf))))], [])
  | _, _ => none
def s32 : CSpec := fun a h => match a, h with
  | [.agg [.c (.str s), .c (.sl 5 rn rt xs), .c (.sl 3 kn kt ys)], .c (.str pf), .c (.str pt)], [] => some ([isRows xs, isL ys, decide ((entL (decL ys)).length < 1000000000)], [.c (.sl 2 none false (ents ((entP (.node s (toRows xs) (decL ys))).filter (fun e => wB pf pt e.1))))], [])
  | _, _ => none
def s82 : CSpec := fun a h => match a, h with
  | [.c (.str s), .c (.str p)], [] => some ([], [V.b (begins s p)], [])
  | _, _ => none
theorem s30_ok : CSpecOk E 30 s30 := by
  intro a h cs vals h' he hc
  unfold s30 at he
  split at he <;> simp only [Option.some.injEq, Prod.mk.injEq, reduceCtorEq] at he
  obtain ⟨rfl, rfl, rfl⟩ := he
  simp only [allT, Bool.and_true, Bool.and_eq_true, decide_eq_true_eq] at hc
  obtain ⟨h1, h2, h3⟩ := hc
  refine call_of (E := E) (sh := sh) (ct := ctOf [(80, s81u)]) (na := 2) (m := 0) (ctOf_cons s81u_ok ctOf_nil) rfl rfl rfl rfl rfl rfl ?_
  rw [show p30.ft _ _ = _ from t30 _ _ _ _ _ _ _ _]
  simp only [fd_chk', fd_leaf, h1, h2, h3, decide_true, if_true]
theorem s32_ok : CSpecOk E 32 s32 := by
  intro a h cs vals h' he hc
  unfold s32 at he
  split at he <;> simp only [Option.some.injEq, Prod.mk.injEq, reduceCtorEq] at he
  obtain ⟨rfl, rfl, rfl⟩ := he
  simp only [allT, Bool.and_true, Bool.and_eq_true, decide_eq_true_eq] at hc
  obtain ⟨h1, h2, h3⟩ := hc
  refine call_of (E := E) (sh := sh) (ct := ctOf [(80, s81b)]) (na := 3) (m := 0) (ctOf_cons s81b_ok ctOf_nil) rfl rfl rfl rfl rfl rfl ?_
  rw [show p32.ft _ _ = _ from t32 _ _ _ _ _ _ _ _ _]
  simp only [fd_chk', fd_leaf, h1, h2, h3, decide_true, if_true]
theorem f82 (s p : Bys) : call E 82 [.c (.str s), .c (.str p)] [] = some ([V.b (begins s p)], []) := by
  refine call_of (E := E) (sh := sh) (ct := ctOf []) (na := 2) (m := 0) ctOf_nil rfl rfl rfl rfl rfl rfl ?_
  rw [t82]
  simp only [fd_br, fd_chk', fd_leaf, Int.toNat_natCast, Int.ofNat_le, decide_eq_true_eq, if_true]
  by_cases c : p.length ≤ s.length
  · rw [if_pos c, if_pos c]
    simp only [begins, c, decide_true, Bool.true_and, V.b]
    rw [show (List.take p.length s == p) = decide (List.take p.length s = p) from by rw [Bool.eq_iff_iff, beq_iff_eq, decide_eq_true_eq]]
  · rw [if_neg c]
    simp only [begins, c, decide_false, Bool.false_and, V.b]
theorem s82_ok : CSpecOk E 82 s82 := by
  intro a h cs vals h' he hc
  unfold s82 at he
  split at he <;> simp only [Option.some.injEq, Prod.mk.injEq, reduceCtorEq] at he
  obtain ⟨rfl, rfl, rfl⟩ := he
  exact f82 _ _
end Go.Proofs.YtgaabjmbnomimaaGreatDoor
namespace Go.Proofs.YtgaabjmbnomimaaGreatDoor
open Go Go.Ev
-- cse
def s26 : CSpec := fun a h => match a, h with
  | [.c (.sl 5 nl tt xs), .c (.sl 5 nl2 t2 ys)], [] => some ([isRows xs, isRows ys, decide (xs.length ≤ 9223372036854775807)], [V.b (decide (toRows xs = toRows ys))], [])
  | _, _ => none
mutual
def sameT : Nd → Nd → Bool
  | .node a r k, .node b s l => decide (a = b) && decide (r = s) && sameL k l
def sameL : List Nd → List Nd → Bool
  | [], [] => true
  | x :: p, y :: q => sameT x y && sameL p q
  | _, _ => false
end
noncomputable abbrev p29 : Par := par E sh (ctOf [(26, s26)]) 29 2 0
abbrev s29_0 (nl : OBo) (tt : Bool) (xs : LLC) (nl2 : OBo) (t2 : Bool) (ys : LLC) (i5 : Int) : Fr × Hp := ([(0, V.c (C.sl 2 nl tt xs)), (1, V.c (C.sl 2 nl2 t2 ys)), (5, V.c (C.int IntKind.i64 i5))], [])
noncomputable abbrev b29_0 : Code := loopAt (codeOf E (29)) 0
abbrev x29_0x0 : Ex × Fr × Hp := (Ex.ret, [(4, V.c (C.bool false))], [])
abbrev x29_0x1 (nl : OBo) (tt : Bool) (xs : LLC) (nl2 : OBo) (t2 : Bool) (ys : LLC) (i5 : Int) : Ex × Fr × Hp := (Ex.exit 0, [(0, V.c (C.sl 2 nl tt xs)), (1, V.c (C.sl 2 nl2 t2 ys)), (5, V.c (C.int IntKind.i64 i5)), (14, V.c (C.bool false))], [])
theorem t29_0 (nl : OBo) (tt : Bool) (xs : LLC) (nl2 : OBo) (t2 : Bool) (ys : LLC) (i5 : Int) : p29.lts b29_0 (s29_0 nl tt xs nl2 t2 ys i5) = (Tr.br (decide (i5 < (↑xs.length : Int))) (Tr.chk (decide (0 ≤ i5)) (Tr.chk true (Tr.chk (decide (i5.toNat < xs.length)) (Tr.chk (shOk [Sk.str, Sk.sl 5] (xs.getD i5.toNat [])) (Tr.chk (decide (0 ≤ i5)) (Tr.chk true (Tr.chk (decide (i5.toNat < ys.length)) (Tr.chk (shOk [Sk.str, Sk.sl 5] (ys.getD i5.toNat [])) (Tr.br (!((xs.getD i5.toNat []).headD C.pnil).st == ((ys.getD i5.toNat []).headD C.pnil).st) (Tr.leaf (R.x x29_0x0)) (Tr.chk (decide (0 ≤ i5)) (Tr.chk true (Tr.chk (decide (i5.toNat < xs.length)) (Tr.chk (shOk [Sk.str, Sk.sl 5] (xs.getD i5.toNat [])) (Tr.chk (decide (0 ≤ i5)) (Tr.chk true (Tr.chk (decide (i5.toNat < ys.length)) (Tr.chk (shOk [Sk.str, Sk.sl 5] (ys.getD i5.toNat [])) (Tr.chk (isRows ((xs.getD i5.toNat []).tail.headD C.pnil).xs) (Tr.chk (isRows ((ys.getD i5.toNat []).tail.headD C.pnil).xs) (Tr.chk (decide (((xs.getD i5.toNat []).tail.headD C.pnil).xs.length ≤ 9223372036854775807)) (Tr.br (!decide (toRows ((xs.getD i5.toNat []).tail.headD C.pnil).xs = toRows ((ys.getD i5.toNat []).tail.headD C.pnil).xs)) (Tr.leaf (R.x x29_0x0)) (Tr.leaf (R.s (s29_0 nl tt xs nl2 t2 ys (IntKind.i64.wrap (i5 + 1)))))))))))))))))))))))))) (Tr.leaf (R.x (x29_0x1 nl tt xs nl2 t2 ys i5)))) := by kernel_rfl
theorem k29_0x1 (nl : OBo) (tt : Bool) (xs : LLC) (nl2 : OBo) (t2 : Bool) (ys : LLC) (i5 : Int) : p29.fkx 0 (x29_0x1 nl tt xs nl2 t2 ys i5) = (Tr.leaf (R.out [V.c (C.bool true)] [])) := by kernel_rfl
theorem t29 (nl : OBo) (tt : Bool) (xs : LLC) (nl2 : OBo) (t2 : Bool) (ys : LLC) : p29.ft ([V.c (C.sl 2 nl tt xs), V.c (C.sl 2 nl2 t2 ys)]) ([]) = (Tr.br ((↑xs.length : Int) != (↑ys.length : Int)) (Tr.leaf (R.out [V.c (C.bool false)] [])) (Tr.ls 0 (s29_0 nl tt xs nl2 t2 ys (0)))) := by kernel_rfl
variable (dd : Nat)
def s14 : CSpec := fun a h => match a, h with
  | [.agg [.c (.str s), .c (.sl 5 rn rt xs), .c (.sl 3 kn kt ys)], .agg [.c (.str s2), .c (.sl 5 rn2 rt2 xs2), .c (.sl 3 kn2 kt2 ys2)]], [] => some ([isRows xs, isL ys, isRows xs2, isL ys2, decide (depL (decL ys) < dd), lensT (.node s (toRows xs) (decL ys))], [V.b (sameT (.node s (toRows xs) (decL ys)) (.node s2 (toRows xs2) (decL ys2)))], [])
  | _, _ => none
noncomputable abbrev p14 : Par := par E sh (ctOf [(26, s26), (14, s14 dd)]) 14 2 0
abbrev s14_0 (s : Bys) (rn : OBo) (rt : Bool) (xs : LLC) (kn : OBo) (kt : Bool) (ys : LLC) (s2 : Bys) (rn2 : OBo) (rt2 : Bool) (xs2 : LLC) (kn2 : OBo) (kt2 : Bool) (ys2 : LLC) (i5 : Int) : Fr × Hp := ([(2, V.ptr 0 0 0 0), (3, V.ptr 1 0 0 0), (5, V.c (C.int IntKind.i64 i5))], [O.box [V.c (C.str s), V.c (C.sl 5 rn rt xs), V.c (C.sl 3 kn kt ys)], O.box [V.c (C.str s2), V.c (C.sl 5 rn2 rt2 xs2), V.c (C.sl 3 kn2 kt2 ys2)]])
noncomputable abbrev b14_0 : Code := loopAt (codeOf E (14)) 0
abbrev x14_0x0 (s : Bys) (rn : OBo) (rt : Bool) (xs : LLC) (kn : OBo) (kt : Bool) (ys : LLC) (s2 : Bys) (rn2 : OBo) (rt2 : Bool) (xs2 : LLC) (kn2 : OBo) (kt2 : Bool) (ys2 : LLC) : Ex × Fr × Hp := (Ex.ret, [(4, V.c (C.bool false))], [O.box [V.c (C.str s), V.c (C.sl 5 rn rt xs), V.c (C.sl 3 kn kt ys)], O.box [V.c (C.str s2), V.c (C.sl 5 rn2 rt2 xs2), V.c (C.sl 3 kn2 kt2 ys2)]])
abbrev x14_0x1 (s : Bys) (rn : OBo) (rt : Bool) (xs : LLC) (kn : OBo) (kt : Bool) (ys : LLC) (s2 : Bys) (rn2 : OBo) (rt2 : Bool) (xs2 : LLC) (kn2 : OBo) (kt2 : Bool) (ys2 : LLC) (i5 : Int) : Ex × Fr × Hp := (Ex.exit 0, [(2, V.ptr 0 0 0 0), (3, V.ptr 1 0 0 0), (5, V.c (C.int IntKind.i64 i5)), (32, V.c (C.bool false))], [O.box [V.c (C.str s), V.c (C.sl 5 rn rt xs), V.c (C.sl 3 kn kt ys)], O.box [V.c (C.str s2), V.c (C.sl 5 rn2 rt2 xs2), V.c (C.sl 3 kn2 kt2 ys2)]])
theorem t14_0 (s : Bys) (rn : OBo) (rt : Bool) (xs : LLC) (kn : OBo) (kt : Bool) (ys : LLC) (s2 : Bys) (rn2 : OBo) (rt2 : Bool) (xs2 : LLC) (kn2 : OBo) (kt2 : Bool) (ys2 : LLC) (i5 : Int) : (p14 dd).lts b14_0 (s14_0 s rn rt xs kn kt ys s2 rn2 rt2 xs2 kn2 kt2 ys2 i5) = (Tr.br (decide (i5 < (↑ys.length : Int))) (Tr.chk (decide (0 ≤ i5)) (Tr.chk true (Tr.chk (decide (i5.toNat < ys.length)) (Tr.chk (shOk [Sk.str, Sk.sl 5, Sk.sl 3] (ys.getD i5.toNat [])) (Tr.chk (decide (0 ≤ i5)) (Tr.chk true (Tr.chk (decide (i5.toNat < ys2.length)) (Tr.chk (shOk [Sk.str, Sk.sl 5, Sk.sl 3] (ys2.getD i5.toNat [])) (Tr.chk (isRows ((ys.getD i5.toNat []).tail.headD C.pnil).xs) (Tr.chk (isL ((ys.getD i5.toNat []).tail.tail.headD C.pnil).xs) (Tr.chk (isRows ((ys2.getD i5.toNat []).tail.headD C.pnil).xs) (Tr.chk (isL ((ys2.getD i5.toNat []).tail.tail.headD C.pnil).xs) (Tr.chk (decide (depL (decL ((ys.getD i5.toNat []).tail.tail.headD C.pnil).xs) < dd)) (Tr.chk (lensT (Nd.node ((ys.getD i5.toNat []).headD C.pnil).st (toRows ((ys.getD i5.toNat []).tail.headD C.pnil).xs) (decL ((ys.getD i5.toNat []).tail.tail.headD C.pnil).xs))) (Tr.br (!sameT (Nd.node ((ys.getD i5.toNat []).headD C.pnil).st (toRows ((ys.getD i5.toNat []).tail.headD C.pnil).xs) (decL ((ys.getD i5.toNat []).tail.tail.headD C.pnil).xs)) (Nd.node ((ys2.getD i5.toNat []).headD C.pnil).st (toRows ((ys2.getD i5.toNat []).tail.headD C.pnil).xs) (decL ((ys2.getD i5.toNat []).tail.tail.headD C.pnil).xs))) (Tr.leaf (R.x (x14_0x0 s rn rt xs kn kt ys s2 rn2 rt2 xs2 kn2 kt2 ys2))) (Tr.leaf (R.s (s14_0 s rn rt xs kn kt ys s2 rn2 rt2 xs2 kn2 kt2 ys2 (IntKind.i64.wrap (i5 + 1)))))))))))))))))))) (Tr.leaf (R.x (x14_0x1 s rn rt xs kn kt ys s2 rn2 rt2 xs2 kn2 kt2 ys2 i5)))) := by kernel_rfl
theorem k14_0x0 (dd : Nat) (s : Bys) (rn : OBo) (rt : Bool) (xs : LLC) (kn : OBo) (kt : Bool) (ys : LLC) (s2 : Bys) (rn2 : OBo) (rt2 : Bool) (xs2 : LLC) (kn2 : OBo) (kt2 : Bool) (ys2 : LLC) : (p14 dd).fkx 0 (x14_0x0 s rn rt xs kn kt ys s2 rn2 rt2 xs2 kn2 kt2 ys2) = (Tr.leaf (R.out [V.c (C.bool false)] [])) := by kernel_rfl
theorem k14_0x1 (dd : Nat) (s : Bys) (rn : OBo) (rt : Bool) (xs : LLC) (kn : OBo) (kt : Bool) (ys : LLC) (s2 : Bys) (rn2 : OBo) (rt2 : Bool) (xs2 : LLC) (kn2 : OBo) (kt2 : Bool) (ys2 : LLC) (i5 : Int) : (p14 dd).fkx 0 (x14_0x1 s rn rt xs kn kt ys s2 rn2 rt2 xs2 kn2 kt2 ys2 i5) = (Tr.leaf (R.out [V.c (C.bool true)] [])) := by kernel_rfl
theorem t14 (s : Bys) (rn : OBo) (rt : Bool) (xs : LLC) (kn : OBo) (kt : Bool) (ys : LLC) (s2 : Bys) (rn2 : OBo) (rt2 : Bool) (xs2 : LLC) (kn2 : OBo) (kt2 : Bool) (ys2 : LLC) : (p14 dd).ft ([V.agg [V.c (C.str s), V.c (C.sl 5 rn rt xs), V.c (C.sl 3 kn kt ys)], V.agg [V.c (C.str s2), V.c (C.sl 5 rn2 rt2 xs2), V.c (C.sl 3 kn2 kt2 ys2)]]) ([]) = (Tr.br (!s == s2) (Tr.leaf (R.out [V.c (C.bool false)] [])) (Tr.chk (isRows xs) (Tr.chk (isRows xs2) (Tr.chk (decide (xs.length ≤ 9223372036854775807)) (Tr.br (!decide (toRows xs = toRows xs2)) (Tr.leaf (R.out [V.c (C.bool false)] [])) (Tr.br ((↑ys.length : Int) != (↑ys2.length : Int)) (Tr.leaf (R.out [V.c (C.bool false)] [])) (Tr.ls 0 (s14_0 s rn rt xs kn kt ys s2 rn2 rt2 xs2 kn2 kt2 ys2 (0))))))))) := by kernel_rfl
end Go.Proofs.YtgaabjmbnomimaaGreatDoor
namespace Go.Proofs.YtgaabjmbnomimaaGreatDoor
open Go Go.Ev
theorem s26_ok : CSpecOk E 26 s26 := by
  intro a h cs vals h' he hc
  unfold s26 at he
  split at he <;> simp only [Option.some.injEq, Prod.mk.injEq, reduceCtorEq] at he
  rename_i nl tt xs nl2 t2 ys
  obtain ⟨rfl, rfl, rfl⟩ := he
  simp only [allT, Bool.and_true, Bool.and_eq_true, decide_eq_true_eq] at hc
  obtain ⟨h1, h2, h3⟩ := hc
  obtain ⟨l, rfl⟩ := rows_ex h1
  obtain ⟨m, rfl⟩ := rows_ex h2
  simp only [toRows_rows, rows_length] at *
  exact f26 l m nl tt nl2 t2 h3
def s91 : CSpec := fun a h => match a, h with
  | [.c (.sl 5 nl tt xs), .c (.sl 5 nl2 t2 ys)], [] => some ([isRows xs, isRows ys, decide (xs.length ≤ 9223372036854775807)], [V.b (decide (toRows xs = toRows ys))], [])
  | _, _ => none
mutual
theorem sameT_iff : ∀ (a b : Nd), sameT a b = true ↔ a = b
  | .node a r k, .node b s l => by
    rw [sameT]
    simp only [Bool.and_eq_true, decide_eq_true_eq, sameL_iff k l, Nd.node.injEq, and_assoc]
theorem sameL_iff : ∀ (a b : List Nd), sameL a b = true ↔ a = b
  | [], [] => by simp [sameL]
  | x :: p, y :: q => by simp only [sameL, Bool.and_eq_true, sameT_iff x y, sameL_iff p q, List.cons.injEq]
  | [], _ :: _ => by simp [sameL]
  | _ :: _, [] => by simp [sameL]
end
theorem sameT_refl (a : Nd) : sameT a a = true := (sameT_iff a a).2 rfl
theorem sameT_dec (a b : Nd) : sameT a b = false ↔ a ≠ b := by rw [← Bool.not_eq_true, sameT_iff]
theorem sameL_ne {a b : List Nd} (h : a ≠ b) : sameL a b = false := by rw [← Bool.not_eq_true, sameL_iff]; exact h
theorem f14 (dd : Nat) (ih : CSpecOk E 14 (s14 dd)) (t t2 : Nd) (rn : OBo) (rt : Bool) (kn : OBo) (kt : Bool) (rn2 : OBo) (rt2 : Bool) (kn2 : OBo) (kt2 : Bool) (hd : depL t.kids < dd + 1) (hl : lensT t = true) :
    call E 14 [.agg [.c (.str t.lab), .c (.sl 5 rn rt (rows t.rows)), .c (.sl 3 kn kt (encL t.kids))], .agg [.c (.str t2.lab), .c (.sl 5 rn2 rt2 (rows t2.rows)), .c (.sl 3 kn2 kt2 (encL t2.kids))]] [] = some ([V.b (sameT t t2)], []) := by
  have hct : (ctOf [(26, s26), (14, s14 dd)]).ok E := ctOf_cons s26_ok (ctOf_cons ih ctOf_nil)
  refine call_of (E := E) (sh := sh) (ct := ctOf [(26, s26), (14, s14 dd)]) (na := 2) (m := 0) hct rfl rfl rfl rfl rfl rfl ?_
  show (p14 dd).fd ((p14 dd).ft _ _) = _
  obtain ⟨s, rs, ks⟩ := t
  obtain ⟨s2, rs2, ks2⟩ := t2
  rw [lensT] at hl
  simp only [Nd.lab_node, Nd.rows_node, Nd.kids_node, Bool.and_eq_true, decide_eq_true_eq] at hd hl ⊢
  obtain ⟨⟨⟨l1, l2⟩, l3⟩, l4⟩ := hl
  rw [t14, sameT]
  have e1 : (!s == s2) = !decide (s = s2) := by rw [beqL]
  simp only [nd_ok, nd_lab, nd_rows, nd_kids, encL_length, isL_enc, decL_enc, wrap_hd, hd_pos, ld_br, ld_chk', ld_leaf, fd_br, fd_chk', fd_leaf, decide_true, decide_eq_true_eq, if_true, Int.toNat_natCast, Int.natCast_nonneg, Int.ofNat_lt, Int.ofNat_le, Bool.false_eq_true, if_false, bne_iff_ne, beq_iff_eq, ne_eq, not_true_eq_false, not_false_eq_true, Bool.not_eq_true', decide_eq_false_iff_not, reduceCtorEq, rows_length, pcs_length, er_ok, er_ok', ep_ok, ep_ok', dr_er, dp_ep, isRows_rows, isPcs_pcs, toRows_rows, toPcs_pcs, rows_take, rows_drop, pcs_take, pcs_drop, rows_append, pcs_append, ints_length, isInts_ints, toInts_ints, ei_i, ei_ok, mk_headD, ints_take, ints_drop, ints_append, ints_snoc, ints_snoc', List.take_length, Nat.zero_add, Nat.le_refl, er_a, er_b, er_k, er_n, er_s, er_v, ep_a, ep_b, ep_hk, ep_hn, ep_hs, ep_wk, ep_wn, ep_ws, e1, l2]
  by_cases c1 : s = s2
  case neg => simp [c1]
  by_cases c2 : rs = rs2
  case neg => simp [c1, c2]
  by_cases c3 : ks.length = ks2.length
  case neg =>
    have : ks ≠ ks2 := fun e => c3 (by rw [e])
    rw [sameL_ne this]
    simp [c1, c2, show ¬ (ks.length : Int) = ks2.length by omega]
  subst c1; subst c2
  have c3' : (ks.length : Int) = ks2.length := by omega
  simp only [c3', decide_true, Bool.not_true, Bool.false_eq_true, if_false, Bool.true_and, not_true_eq_false]
  refine fd_post hct (by kernel_rfl) rfl (list_post (p := p14 dd) hct (b := b14_0) ks.length (fun k (_ : Unit) => s14_0 s rn rt (rows rs) kn kt (encL ks) s rn2 rt2 (rows rs) kn2 kt2 (encL ks2) k) (fun k _ => ks.take k = ks2.take k) _ ?_ ?_ 0 (Nat.zero_le _) () (by simp))
  · intro k _ hk hi
    have hm : k < ks2.length := by omega
    have hkid : depL ks[k].kids < dd := by have := depL_kid (List.getElem_mem hk); omega
    rw [t14_0]
    simp only [nd_ok, nd_lab, nd_rows, nd_kids, encL_length, isL_enc, decL_enc, wrap_hd, hd_pos, ld_br, ld_chk', ld_leaf, fd_br, fd_chk', fd_leaf, decide_true, decide_eq_true_eq, if_true, Int.toNat_natCast, Int.natCast_nonneg, Int.ofNat_lt, Int.ofNat_le, Bool.false_eq_true, if_false, bne_iff_ne, beq_iff_eq, ne_eq, not_true_eq_false, not_false_eq_true, Bool.not_eq_true', decide_eq_false_iff_not, reduceCtorEq, rows_length, pcs_length, er_ok, er_ok', ep_ok, ep_ok', dr_er, dp_ep, isRows_rows, isPcs_pcs, toRows_rows, toPcs_pcs, rows_take, rows_drop, pcs_take, pcs_drop, rows_append, pcs_append, ints_length, isInts_ints, toInts_ints, ei_i, ei_ok, mk_headD, ints_take, ints_drop, ints_append, ints_snoc, ints_snoc', List.take_length, Nat.zero_add, Nat.le_refl, er_a, er_b, er_k, er_n, er_s, er_v, ep_a, ep_b, ep_hk, ep_hn, ep_hs, ep_wk, ep_wn, ep_ws, hk, hm, encL_getD hk, encL_getD hm, nd_node, hkid, lensL_mem l4 (List.getElem_mem hk), wrap_succ (show k < 9223372036854775807 by omega)]
    by_cases he : ks[k] = ks2[k]
    · left
      refine ⟨(), take_ext hi hk hm he, ?_⟩
      rw [(sameT_iff _ _).2 he]; rfl
    · right
      refine ⟨x14_0x0 s rn rt (rows rs) kn kt (encL ks) s rn2 rt2 (rows rs) kn2 kt2 (encL ks2), by simp, ?_, by rw [(sameT_dec _ _).2 he]; rfl⟩
      rw [k14_0x0, fd_leaf, sameL_ne (fun e => he (by subst e; rfl))]
  · intro _ hi
    rw [t14_0]
    refine ⟨x14_0x1 s rn rt (rows rs) kn kt (encL ks) s rn2 rt2 (rows rs) kn2 kt2 (encL ks2) ks.length, by simp, ?_, by simp only [nd_ok, nd_lab, nd_rows, nd_kids, encL_length, isL_enc, decL_enc, wrap_hd, hd_pos, ld_br, ld_chk', ld_leaf, fd_br, fd_chk', fd_leaf, decide_true, decide_eq_true_eq, if_true, Int.toNat_natCast, Int.natCast_nonneg, Int.ofNat_lt, Int.ofNat_le, Bool.false_eq_true, if_false, bne_iff_ne, beq_iff_eq, ne_eq, not_true_eq_false, not_false_eq_true, Bool.not_eq_true', decide_eq_false_iff_not, reduceCtorEq, rows_length, pcs_length, er_ok, er_ok', ep_ok, ep_ok', dr_er, dp_ep, isRows_rows, isPcs_pcs, toRows_rows, toPcs_pcs, rows_take, rows_drop, pcs_take, pcs_drop, rows_append, pcs_append, ints_length, isInts_ints, toInts_ints, ei_i, ei_ok, mk_headD, ints_take, ints_drop, ints_append, ints_snoc, ints_snoc', List.take_length, Nat.zero_add, Nat.le_refl, er_a, er_b, er_k, er_n, er_s, er_v, ep_a, ep_b, ep_hk, ep_hn, ep_hs, ep_wk, ep_wn, ep_ws, Int.lt_irrefl]⟩
    rw [List.take_length, c3, List.take_length] at hi
    rw [k14_0x1, fd_leaf, (sameL_iff _ _).2 hi]
theorem s14_ok : ∀ d, CSpecOk E 14 (s14 d)
  | 0 => by
    intro a h cs vals h' he hc
    unfold s14 at he
    split at he <;> simp only [Option.some.injEq, Prod.mk.injEq, reduceCtorEq] at he
    obtain ⟨rfl, rfl, rfl⟩ := he
    simp [allT] at hc
  | d + 1 => by
    intro a h cs vals h' he hc
    unfold s14 at he
    split at he <;> simp only [Option.some.injEq, Prod.mk.injEq, reduceCtorEq] at he
    rename_i s rn rt xs kn kt ys s2 rn2 rt2 xs2 kn2 kt2 ys2
    obtain ⟨rfl, rfl, rfl⟩ := he
    simp only [allT, Bool.and_true, Bool.and_eq_true, decide_eq_true_eq] at hc
    obtain ⟨h1, h2, h3, h4, h5, h6⟩ := hc
    obtain ⟨rs, rfl⟩ := rows_ex h1
    obtain ⟨ks, rfl⟩ := isL_ex h2
    obtain ⟨rs2, rfl⟩ := rows_ex h3
    obtain ⟨ks2, rfl⟩ := isL_ex h4
    simp only [toRows_rows, decL_enc] at *
    exact f14 d (s14_ok d) (.node s rs ks) (.node s2 rs2 ks2) rn rt kn kt rn2 rt2 kn2 kt2 h5 h6
def s14n : CSpec := fun a h => match a, h with
  | [.agg [.c (.str s), .c (.sl 5 rn rt xs), .c (.sl 3 kn kt ys)], .agg [.c (.str s2), .c (.sl 5 rn2 rt2 xs2), .c (.sl 3 kn2 kt2 ys2)]], [] => some ([isRows xs, isL ys, isRows xs2, isL ys2, lensT (.node s (toRows xs) (decL ys))], [V.b (sameT (.node s (toRows xs) (decL ys)) (.node s2 (toRows xs2) (decL ys2)))], [])
  | _, _ => none
theorem s17n_ok : CSpecOk E 14 s14n := by
  intro a h cs vals h' he hc
  unfold s14n at he
  split at he <;> simp only [Option.some.injEq, Prod.mk.injEq, reduceCtorEq] at he
  rename_i s rn rt xs kn kt ys s2 rn2 rt2 xs2 kn2 kt2 ys2
  obtain ⟨rfl, rfl, rfl⟩ := he
  simp only [allT, Bool.and_true, Bool.and_eq_true, decide_eq_true_eq] at hc
  obtain ⟨h1, h2, h3, h4, h6⟩ := hc
  obtain ⟨rs, rfl⟩ := rows_ex h1
  obtain ⟨ks, rfl⟩ := isL_ex h2
  obtain ⟨rs2, rfl⟩ := rows_ex h3
  obtain ⟨ks2, rfl⟩ := isL_ex h4
  simp only [toRows_rows, decL_enc] at *
  exact f14 (depL ks) (s14_ok _) (.node s rs ks) (.node s2 rs2 ks2) rn rt kn kt rn2 rt2 kn2 kt2 (Nat.lt_succ_self _) h6
mutual
theorem okT_lens : ∀ (t : Nd) (n : Nat), n ≤ 24 → okT t n = true → lensT t = true
  | .node s rs ks, n, hn, h => by
    obtain ⟨g1, g2, g9003, g9004, g9005⟩ := okT_iff.1 h
    simp only [Nd.lab_node, Nd.rows_node, Nd.kids_node] at g1 g2 g9003 g9004 g9005
    have h1 := right_len4 g9003
    have h2 := okL_len (okL_iff'.2 g9005) (by omega)
    rw [lensT, kidsOk_lens ks _ (by omega) g9005]
    simp only [Bool.and_true, Bool.and_eq_true, decide_eq_true_eq]
    omega
theorem kidsOk_lens : ∀ (l : List Nd) (n : Nat), n ≤ 24 → kidsOk l n → lensL l = true
  | [], _, _, _ => rfl
  | t :: r, n, hn, h => by
    rw [lensL, okT_lens t n hn (h.1 t (by simp)), kidsOk_lens r n hn (kidsOk_sub h (List.sublist_cons_self _ _))]; rfl
end
theorem okR_lens {t : Nd} (h : okR t = true) : lensT t = true := by
  obtain ⟨h1, h2, h3⟩ := okR_iff.1 h
  have h4 := okL_len (okL_iff'.2 h3) (by omega)
  rw [lensT_eq, h1, h2, kidsOk_lens _ 24 (Nat.le_refl _) h3]
  simp; omega
end Go.Proofs.YtgaabjmbnomimaaGreatDoor
namespace Go.Proofs.YtgaabjmbnomimaaGreatDoor
open Go Go.Ev
-- cse
end Go.Proofs.YtgaabjmbnomimaaGreatDoor
namespace Go.Proofs.YtgaabjmbnomimaaGreatDoor
open Go Go.Ev
-- cse
end Go.Proofs.YtgaabjmbnomimaaGreatDoor
namespace Go.Proofs.YtgaabjmbnomimaaGreatDoor
open Go Go.Ev
section
variable {x y z : List Ent} {S : List Sd} (hs : SP x y z S) (hx : Gd x) (hy : Gd y) (hz : Gd z)
include hs
omit hs in
include hx hy hz
end
end Go.Proofs.YtgaabjmbnomimaaGreatDoor
namespace Go.Proofs.YtgaabjmbnomimaaGreatDoor
open Go Go.Ev
-- cse
end Go.Proofs.YtgaabjmbnomimaaGreatDoor
namespace Go.Proofs.YtgaabjmbnomimaaGreatDoor
open Go Go.Ev
theorem right_len63 {l : List Row} (h : right l = true) : l.length ≤ 9223372036854775807 := by have := right_len4 h; omega
theorem entP_len (t : Nd) (h : (entL t.kids).length < 1000000000) : (entP t).length < 1000000000 := by
  rw [entP]; cases okR t
  · simp
  · exact h
end Go.Proofs.YtgaabjmbnomimaaGreatDoor
namespace Go.Proofs.YtgaabjmbnomimaaGreatDoor
open Go Go.Ev
-- cse
variable (dd : Nat)
end Go.Proofs.YtgaabjmbnomimaaGreatDoor
namespace Go.Proofs.YtgaabjmbnomimaaGreatDoor
open Go Go.Ev
mutual
theorem leftT_ent : ∀ (t : Nd) (n d : Int), 0 ≤ n → 0 < leftT t n d → ((entT t).length : Int) ≤ n - leftT t n d
  | .node lab rs ks, n, d, h0, h => by
    rw [leftT] at h ⊢
    split at h
    · omega
    · rename_i hc
      rw [if_neg hc]
      have := leftL_ent ks (n - 1 - ((lab.length / 50 : Nat) : Int)) (d - 1) (by omega) h
      have hl := entT_node [] lab rs ks
      rw [pre_nil] at hl
      rw [hl, List.length_append, pre_length]
      have ho : (ownE ([] ++ lab) rs).length ≤ 1 := by unfold ownE; split <;> simp
      omega
theorem leftL_ent : ∀ (l : List Nd) (n d : Int), 0 ≤ n → 0 < leftL l n d → ((entL l).length : Int) ≤ n - leftL l n d
  | [], n, d, h0, h => by rw [leftL, entL]; simp
  | t :: r, n, d, h0, h => by
    rw [leftL] at h ⊢
    split at h
    · rename_i hn
      rw [if_pos hn]
      have hle := leftT_le t n d h0
      have hpos : 0 < leftT t n d := by
        have := (leftL_le r (leftT t n d) d hle.1).2; omega
      have h1 := leftT_ent t n d h0 hpos
      have h2 := leftL_ent r (leftT t n d) d hle.1 h
      rw [entL, List.length_append]
      omega
    · omega
end
end Go.Proofs.YtgaabjmbnomimaaGreatDoor
namespace Go.Proofs.YtgaabjmbnomimaaGreatDoor
open Go Go.Ev
def dE (x : List C) : Ent := ((x.headD .pnil).st, toRows (x.tail.headD .pnil).xs)
def isE (x : List C) : Bool := shOk [.str, .sl 5] x && isRows (x.tail.headD .pnil).xs
def isEs (xs : LLC) : Bool := xs.all isE
def toEs (xs : LLC) : List Ent := xs.map dE
theorem dE_ee (e : Ent) : dE (ee e) = e := by unfold dE; rw [ee_p, ee_r, toRows_rows]
theorem isE_ee (e : Ent) : isE (ee e) = true := by unfold isE; rw [ee_ok, ee_r, isRows_rows]; rfl
theorem isE_of {x : List C} (h : isE x = true) : x = ee (dE x) := by
  simp only [isE, Bool.and_eq_true] at h
  have h4 := shape_ok h.1
  have : ee (dE x) = Go.Ev.shape [.str, .sl 5] x := by
    show [C.str (x.headD .pnil).st, C.sl 5 none false (rows (toRows (x.tail.headD .pnil).xs))] = _
    rw [← rows_of h.2]; rfl
  rw [this]; exact h4.symm
theorem ents_ex {xs : List (List C)} (h : isEs xs = true) : ∃ l, xs = ents l := by
  refine ⟨toEs xs, ?_⟩
  unfold isEs at h
  rw [List.all_eq_true] at h
  unfold ents toEs
  rw [List.map_map]
  conv => lhs; rw [← List.map_id xs]
  exact List.map_congr_left fun x hx => isE_of (h x hx)
theorem isEs_ents (l : List Ent) : isEs (ents l) = true := by simp [isEs, ents, isE_ee]
theorem toEs_ents (l : List Ent) : toEs (ents l) = l := by simp [toEs, ents, dE_ee, Function.comp_def]
def IsN (d : Nat) (l : List Ent) (n : Int) (t : Nd) : Prop := ∃ q m, okT t m = true ∧ q.length + m ≤ 24 ∧ depT t < d ∧ n = (q.length : Nat) ∧ l = pre' q (entT t)
def IsK (d : Nat) (l : List Ent) (n : Int) (ks : List Nd) : Prop := ∃ q m, kidsOk ks m ∧ q.length + m ≤ 24 ∧ depL ks < d ∧ n = (q.length : Nat) ∧ l = pre' q (entL ks)
theorem IsN.uniq {d d' : Nat} {l : List Ent} {n : Int} {t u : Nd} (h : IsN d l n t) (k : IsN d' l n u) : t = u := by
  obtain ⟨q, m, h1, h2, _, h4, h5⟩ := h
  obtain ⟨q', m', k1, k2, _, k9004, k9005⟩ := k
  have e1 := nodeF_ent t q (sizeT t + sizeT u) m h1 h2 (by omega)
  have e2 := nodeF_ent u q' (sizeT t + sizeT u) m' k1 k2 (by omega)
  rw [← h5] at e1
  rw [← k9005] at e2
  have : q.length = q'.length := by omega
  rw [this] at e1
  exact e1.symm.trans e2
theorem IsK.uniq {d d' : Nat} {l : List Ent} {n : Int} {t u : List Nd} (h : IsK d l n t) (k : IsK d' l n u) : t = u := by
  obtain ⟨q, m, h1, h2, _, h4, h5⟩ := h
  obtain ⟨q', m', k1, k2, _, k9004, k9005⟩ := k
  have e1 := belowF_ent t q (sizeL t + sizeL u) m h1 h2 (by omega)
  have e2 := belowF_ent u q' (sizeL t + sizeL u) m' k1 k2 (by omega)
  rw [← h5] at e1
  rw [← k9005] at e2
  have : q.length = q'.length := by omega
  rw [this] at e1
  exact e1.symm.trans e2
open Classical in
noncomputable def hasN (d : Nat) (l : List Ent) (n : Int) : Bool := decide (∃ t, IsN d l n t)
open Classical in
noncomputable def hasK (d : Nat) (l : List Ent) (n : Int) : Bool := decide (∃ t, IsK d l n t)
open Classical in
noncomputable def theN (d : Nat) (l : List Ent) (n : Int) : Nd := if h : ∃ t, IsN d l n t then h.choose else default
open Classical in
noncomputable def theK (d : Nat) (l : List Ent) (n : Int) : List Nd := if h : ∃ t, IsK d l n t then h.choose else []
open Classical in
theorem theN_eq {d : Nat} {l : List Ent} {n : Int} {t : Nd} (h : IsN d l n t) : hasN d l n = true ∧ theN d l n = t := by
  have hx : ∃ t, IsN d l n t := ⟨t, h⟩
  refine ⟨by unfold hasN; exact decide_eq_true hx, ?_⟩
  unfold theN
  rw [dif_pos hx]
  exact hx.choose_spec.uniq h
open Classical in
theorem theK_eq {d : Nat} {l : List Ent} {n : Int} {t : List Nd} (h : IsK d l n t) : hasK d l n = true ∧ theK d l n = t := by
  have hx : ∃ t, IsK d l n t := ⟨t, h⟩
  refine ⟨by unfold hasK; exact decide_eq_true hx, ?_⟩
  unfold theK
  rw [dif_pos hx]
  exact hx.choose_spec.uniq h
open Classical in
theorem hasN_ex {d : Nat} {l : List Ent} {n : Int} (h : hasN d l n = true) : ∃ t, IsN d l n t := by
  unfold hasN at h; exact of_decide_eq_true h
open Classical in
theorem hasK_ex {d : Nat} {l : List Ent} {n : Int} (h : hasK d l n = true) : ∃ t, IsK d l n t := by
  unfold hasK at h; exact of_decide_eq_true h
end Go.Proofs.YtgaabjmbnomimaaGreatDoor
namespace Go.Proofs.YtgaabjmbnomimaaGreatDoor
open Go Go.Ev
-- cse
variable (dd : Nat)
noncomputable abbrev p201 : Par := par E sh (ctOf []) 201 2 0
abbrev s201_0 (nl : OBo) (tt : Bool) (xs : LLC) (n : Int) : Fr × Hp := ([(0, V.c (C.sl 2 nl tt xs)), (5, V.c (C.int IntKind.i64 n))], [])
noncomputable abbrev b201_0 : Code := loopAt (codeOf E (201)) 0
abbrev x201_0x0 (n : Int) : Ex × Fr × Hp := (Ex.ret, [(4, V.c (C.int IntKind.i64 n))], [])
abbrev s201_0_0 (nl : OBo) (tt : Bool) (xs : LLC) (n : Int) (i6 : Int) : Fr × Hp := ([(0, V.c (C.sl 2 nl tt xs)), (5, V.c (C.int IntKind.i64 n)), (6, V.c (C.int IntKind.i64 i6))], [])
noncomputable abbrev b201_0_0 : Code := loopAt b201_0 0
abbrev x201_0_0x0 (n : Int) : Ex × Fr × Hp := (Ex.ret, [(4, V.c (C.int IntKind.i64 n))], [])
abbrev x201_0_0x1 (nl : OBo) (tt : Bool) (xs : LLC) (n : Int) (i6 : Int) : Ex × Fr × Hp := (Ex.exit 2, [(0, V.c (C.sl 2 nl tt xs)), (5, V.c (C.int IntKind.i64 n)), (6, V.c (C.int IntKind.i64 i6)), (23, V.c (C.bool false))], [])
theorem t201_0_0 (nl : OBo) (tt : Bool) (xs : LLC) (n : Int) (i6 : Int) : p201.lts b201_0_0 (s201_0_0 nl tt xs n i6) = (Tr.br (decide (i6 < (↑xs.length : Int))) (Tr.chk (decide (0 ≤ i6)) (Tr.chk true (Tr.chk (decide (i6.toNat < xs.length)) (Tr.chk (shOk [Sk.str, Sk.sl 5] (xs.getD i6.toNat [])) (Tr.br (decide ((↑((xs.getD i6.toNat []).headD C.pnil).st.length : Int) ≤ n)) (Tr.leaf (R.x (x201_0_0x0 n))) (Tr.chk (decide (0 ≤ i6)) (Tr.chk true (Tr.chk (decide (i6.toNat < xs.length)) (Tr.chk (shOk [Sk.str, Sk.sl 5] (xs.getD i6.toNat [])) (Tr.chk (decide (0 ≤ n)) (Tr.chk (decide (n.toNat < ((xs.getD i6.toNat []).headD C.pnil).st.length)) (Tr.chk true (Tr.chk true (Tr.chk (decide (Int.toNat 0 < xs.length)) (Tr.chk (shOk [Sk.str, Sk.sl 5] (xs.getD (Int.toNat 0) [])) (Tr.chk (decide (0 ≤ n)) (Tr.chk (decide (n.toNat < ((xs.getD (Int.toNat 0) []).headD C.pnil).st.length)) (Tr.br ((↑(((xs.getD i6.toNat []).headD C.pnil).st.getD n.toNat 0).toNat : Int) != (↑(((xs.getD (Int.toNat 0) []).headD C.pnil).st.getD n.toNat 0).toNat : Int)) (Tr.leaf (R.x (x201_0_0x0 n))) (Tr.leaf (R.s (s201_0_0 nl tt xs n (IntKind.i64.wrap (i6 + 1))))))))))))))))))))))) (Tr.leaf (R.x (x201_0_0x1 nl tt xs n i6)))) := by kernel_rfl
theorem k201_0_0x0 (n : Int) : p201.lkx b201_0 0 (x201_0_0x0 n) = (Tr.leaf (R.x (x201_0x0 n))) := by kernel_rfl
theorem k201_0_0x1 (nl : OBo) (tt : Bool) (xs : LLC) (n : Int) (i6 : Int) : p201.lkx b201_0 0 (x201_0_0x1 nl tt xs n i6) = (Tr.leaf (R.s (s201_0 nl tt xs (IntKind.i64.wrap (n + 1))))) := by kernel_rfl
theorem t201_0 (nl : OBo) (tt : Bool) (xs : LLC) (n : Int) : p201.lts b201_0 (s201_0 nl tt xs n) = (Tr.chk true (Tr.chk true (Tr.chk (decide (Int.toNat 0 < xs.length)) (Tr.chk (shOk [Sk.str, Sk.sl 5] (xs.getD (Int.toNat 0) [])) (Tr.br (decide ((↑((xs.getD (Int.toNat 0) []).headD C.pnil).st.length : Int) ≤ n)) (Tr.leaf (R.x (x201_0x0 n))) (Tr.br (decide (24 ≤ n)) (Tr.leaf (R.x (x201_0x0 n))) (Tr.ls 0 (s201_0_0 nl tt xs n (0))))))))) := by kernel_rfl
theorem k201_0x0 (n : Int) : p201.fkx 0 (x201_0x0 n) = (Tr.leaf (R.out [V.c (C.int IntKind.i64 n)] [])) := by kernel_rfl
theorem t201 (nl : OBo) (tt : Bool) (xs : LLC) (n : Int) : p201.ft ([V.c (C.sl 2 nl tt xs), V.i n]) ([]) = (Tr.ls 0 (s201_0 nl tt xs n)) := by kernel_rfl
def s201 : CSpec := fun a h => match a, h with
  | [.c (.sl 2 nl tt xs), .c (.int .i64 n)], [] => some ([isEs xs, decide (xs ≠ []), decide (xs.length < 4294967296), decide (0 ≤ n), decide (n ≤ 24)], [V.i ((commonL (toEs xs) n.toNat : Nat) : Int)], [])
  | _, _ => none
noncomputable def s133 : CSpec := fun a h => match a, h with
  | [.c (.sl 2 nl tt xs), .c (.int .i64 n)], [] => some ([isEs xs, decide (xs.length < 4294967295), hasK dd (toEs xs) n], [.c (.sl 3 none false (encL (theK dd (toEs xs) n)))], [])
  | _, _ => none
noncomputable abbrev p175 : Par := par E sh (ctOf [(201, s201), (133, s133 dd)]) 175 2 0
theorem t175 (nl : OBo) (tt : Bool) (xs : LLC) (n : Int) : (p175 dd).ft ([V.c (C.sl 2 nl tt xs), V.i n]) ([]) = (Tr.chk (isEs xs) (Tr.chk (decide (xs ≠ [])) (Tr.chk (decide (xs.length < 4294967296)) (Tr.chk (decide (0 ≤ n)) (Tr.chk (decide (n ≤ 24)) (Tr.chk true (Tr.chk true (Tr.chk (decide (Int.toNat 0 < xs.length)) (Tr.chk (shOk [Sk.str, Sk.sl 5] (xs.getD (Int.toNat 0) [])) (Tr.chk (decide (0 ≤ n)) (Tr.chk true (Tr.chk (decide (n.toNat ≤ (↑(commonL (toEs xs) n.toNat) : Int).toNat)) (Tr.chk (decide ((↑(commonL (toEs xs) n.toNat) : Int).toNat ≤ ((xs.getD (Int.toNat 0) []).headD C.pnil).st.length)) (Tr.chk true (Tr.chk true (Tr.chk (decide (Int.toNat 0 < xs.length)) (Tr.chk (shOk [Sk.str, Sk.sl 5] (xs.getD (Int.toNat 0) [])) (Tr.br ((↑((xs.getD (Int.toNat 0) []).headD C.pnil).st.length : Int) == (↑(commonL (toEs xs) n.toNat) : Int)) (Tr.chk true (Tr.chk true (Tr.chk (decide (Int.toNat 0 < xs.length)) (Tr.chk (shOk [Sk.str, Sk.sl 5] (xs.getD (Int.toNat 0) [])) (Tr.chk true (Tr.chk (decide (Int.toNat 1 ≤ xs.length)) (Tr.chk (decide (xs.length ≤ xs.length)) (Tr.chk true (Tr.chk (isEs (List.drop (Int.toNat 1) (List.take xs.length xs))) (Tr.chk (decide ((List.drop (Int.toNat 1) (List.take xs.length xs)).length < 4294967295)) (Tr.chk (hasK dd (toEs (List.drop (Int.toNat 1) (List.take xs.length xs))) (↑(commonL (toEs xs) n.toNat) : Int)) (Tr.leaf (R.out [V.agg [V.c (C.str (List.drop n.toNat (List.take (↑(commonL (toEs xs) n.toNat) : Int).toNat ((xs.getD (Int.toNat 0) []).headD C.pnil).st))), V.c (C.sl 5 none false ((xs.getD (Int.toNat 0) []).tail.headD C.pnil).xs), V.c (C.sl 3 none false (encL (theK dd (toEs (List.drop (Int.toNat 1) (List.take xs.length xs))) (↑(commonL (toEs xs) n.toNat) : Int))))]] []))))))))))))) (Tr.chk (isEs xs) (Tr.chk (decide (xs.length < 4294967295)) (Tr.chk (hasK dd (toEs xs) (↑(commonL (toEs xs) n.toNat) : Int)) (Tr.leaf (R.out [V.agg [V.c (C.str (List.drop n.toNat (List.take (↑(commonL (toEs xs) n.toNat) : Int).toNat ((xs.getD (Int.toNat 0) []).headD C.pnil).st))), V.c (C.sl 5 none false []), V.c (C.sl 3 none false (encL (theK dd (toEs xs) (↑(commonL (toEs xs) n.toNat) : Int))))]] []))))))))))))))))))))))) := by kernel_rfl
noncomputable def s175 : CSpec := fun a h => match a, h with
  | [.c (.sl 2 nl tt xs), .c (.int .i64 n)], [] => some ([isEs xs, decide (xs.length < 4294967295), hasN (dd + 1) (toEs xs) n], [VT (theN (dd + 1) (toEs xs) n)], [])
  | _, _ => none
noncomputable abbrev p133 : Par := par E sh (ctOf [(175, s175 dd)]) 133 2 0
abbrev s133_0 (nl0 : OBo) (t0 : Bool) (xs0 : LLC) (i1 : Int) (n5 : Nat) (i6 : Int) (ys0 : LLC) : Fr × Hp := ([(0, V.c (C.sl 2 nl0 t0 xs0)), (1, V.c (C.int IntKind.i64 i1)), (5, V.buf 0 0 0 n5), (6, V.c (C.int IntKind.i64 i6))], [O.mem 3 0 ys0])
noncomputable abbrev b133_0 : Code := loopAt (codeOf E (133)) 0
abbrev s133_0_0 (nl0_1 : OBo) (t0_1 : Bool) (xs0_1 : LLC) (i1_1 : Int) (n5_1 : Nat) (i6_1 : Int) (i7 : Int) (ys0_1 : LLC) : Fr × Hp := ([(0, V.c (C.sl 2 nl0_1 t0_1 xs0_1)), (1, V.c (C.int IntKind.i64 i1_1)), (5, V.buf 0 0 0 n5_1), (6, V.c (C.int IntKind.i64 i6_1)), (7, V.c (C.int IntKind.i64 i7))], [O.mem 3 0 ys0_1])
noncomputable abbrev b133_0_0 : Code := loopAt b133_0 0
abbrev x133_0_0x0 (nl0_1 : OBo) (t0_1 : Bool) (xs0_1 : LLC) (i1_1 : Int) (n5_1 : Nat) (i6_1 : Int) (i7 : Int) (ys0_1 : LLC) : Ex × Fr × Hp := (Ex.exit 2, [(0, V.c (C.sl 2 nl0_1 t0_1 xs0_1)), (1, V.c (C.int IntKind.i64 i1_1)), (5, V.buf 0 0 0 n5_1), (6, V.c (C.int IntKind.i64 i6_1)), (7, V.c (C.int IntKind.i64 i7)), (33, V.c (C.bool false))], [O.mem 3 0 ys0_1])
abbrev x133_0x0 (nl0 : OBo) (t0 : Bool) (xs0 : LLC) (i1 : Int) (n5 : Nat) (i6 : Int) (ys0 : LLC) : Ex × Fr × Hp := (Ex.exit 0, [(0, V.c (C.sl 2 nl0 t0 xs0)), (1, V.c (C.int IntKind.i64 i1)), (5, V.buf 0 0 0 n5), (6, V.c (C.int IntKind.i64 i6)), (11, V.c (C.bool false))], [O.mem 3 0 ys0])
theorem t133_0_0 (nl0_1 : OBo) (t0_1 : Bool) (xs0_1 : LLC) (i1_1 : Int) (n5_1 : Nat) (i6_1 : Int) (i7 : Int) (ys0_1 : LLC) : (p133 dd).lts b133_0_0 (s133_0_0 nl0_1 t0_1 xs0_1 i1_1 n5_1 i6_1 i7 ys0_1) = (Tr.br (decide (i7 < (↑xs0_1.length : Int))) (Tr.chk (decide (0 ≤ i7)) (Tr.chk true (Tr.chk (decide (i7.toNat < xs0_1.length)) (Tr.chk (shOk [Sk.str, Sk.sl 5] (xs0_1.getD i7.toNat [])) (Tr.chk (decide (0 ≤ i1_1)) (Tr.chk (decide (i1_1.toNat < ((xs0_1.getD i7.toNat []).headD C.pnil).st.length)) (Tr.chk (decide (0 ≤ i6_1)) (Tr.chk true (Tr.chk (decide (i6_1.toNat < xs0_1.length)) (Tr.chk (shOk [Sk.str, Sk.sl 5] (xs0_1.getD i6_1.toNat [])) (Tr.chk (decide (0 ≤ i1_1)) (Tr.chk (decide (i1_1.toNat < ((xs0_1.getD i6_1.toNat []).headD C.pnil).st.length)) (Tr.br ((↑(((xs0_1.getD i7.toNat []).headD C.pnil).st.getD i1_1.toNat 0).toNat : Int) == (↑(((xs0_1.getD i6_1.toNat []).headD C.pnil).st.getD i1_1.toNat 0).toNat : Int)) (Tr.leaf (R.s (s133_0_0 nl0_1 t0_1 xs0_1 i1_1 n5_1 i6_1 (IntKind.i64.wrap (i7 + 1)) ys0_1))) (Tr.leaf (R.x (x133_0_0x0 nl0_1 t0_1 xs0_1 i1_1 n5_1 i6_1 i7 ys0_1)))))))))))))))) (Tr.leaf (R.x (x133_0_0x0 nl0_1 t0_1 xs0_1 i1_1 n5_1 i6_1 i7 ys0_1)))) := by kernel_rfl
theorem k133_0_0x0 (dd : Nat) (nl0_1 : OBo) (t0_1 : Bool) (xs0_1 : LLC) (i1_1 : Int) (n5_1 : Nat) (i6_1 : Int) (i7 : Int) (ys0_1 : LLC) : (p133 dd).lkx b133_0 0 (x133_0_0x0 nl0_1 t0_1 xs0_1 i1_1 n5_1 i6_1 i7 ys0_1) = (Tr.chk (decide (0 ≤ i6_1)) (Tr.chk (decide (0 ≤ i7)) (Tr.chk (decide (i6_1.toNat ≤ i7.toNat)) (Tr.chk (decide (i7.toNat ≤ xs0_1.length)) (Tr.chk true (Tr.chk (isEs (List.drop i6_1.toNat (List.take i7.toNat xs0_1))) (Tr.chk (decide ((List.drop i6_1.toNat (List.take i7.toNat xs0_1)).length < 4294967295)) (Tr.chk (hasN (dd + 1) (toEs (List.drop i6_1.toNat (List.take i7.toNat xs0_1))) i1_1) (Tr.chk true (Tr.chk true (Tr.chk (decide (n5_1 + 1 < 4294967296)) (Tr.chk true (Tr.leaf (R.s (s133_0 nl0_1 t0_1 xs0_1 i1_1 (n5_1 + 1) i7 (List.take n5_1 ys0_1 ++ [[C.str (theN (dd + 1) (toEs (List.drop i6_1.toNat (List.take i7.toNat xs0_1))) i1_1).lab, C.sl 5 none false (rows (theN (dd + 1) (toEs (List.drop i6_1.toNat (List.take i7.toNat xs0_1))) i1_1).rows), C.sl 3 none false (encL (theN (dd + 1) (toEs (List.drop i6_1.toNat (List.take i7.toNat xs0_1))) i1_1).kids)]])))))))))))))))) := by kernel_rfl
theorem t133_0 (nl0 : OBo) (t0 : Bool) (xs0 : LLC) (i1 : Int) (n5 : Nat) (i6 : Int) (ys0 : LLC) : (p133 dd).lts b133_0 (s133_0 nl0 t0 xs0 i1 n5 i6 ys0) = (Tr.br (decide (i6 < (↑xs0.length : Int))) (Tr.ls 0 (s133_0_0 nl0 t0 xs0 i1 n5 i6 i6 ys0)) (Tr.leaf (R.x (x133_0x0 nl0 t0 xs0 i1 n5 i6 ys0)))) := by kernel_rfl
theorem k133_0x0 (dd : Nat) (nl0 : OBo) (t0 : Bool) (xs0 : LLC) (i1 : Int) (n5 : Nat) (i6 : Int) (ys0 : LLC) : (p133 dd).fkx 0 (x133_0x0 nl0 t0 xs0 i1 n5 i6 ys0) = (Tr.leaf (R.out [V.c (C.sl 3 none false (List.take n5 ys0))] [])) := by kernel_rfl
theorem t133 (nl : OBo) (tt : Bool) (xs : LLC) (n : Int) : (p133 dd).ft ([V.c (C.sl 2 nl tt xs), V.i n]) ([]) = (Tr.ls 0 (s133_0 nl tt xs n (0) (0) ([]))) := by kernel_rfl
noncomputable abbrev p73 : Par := par E sh (ctOf [(133, s133 dd)]) 73 1 0
theorem t73 (nl : OBo) (tt : Bool) (xs : LLC) : (p73 dd).ft ([V.c (C.sl 2 nl tt xs)]) ([]) = (Tr.chk (isEs xs) (Tr.chk (decide (xs.length < 4294967295)) (Tr.chk (hasK dd (toEs xs) 0) (Tr.leaf (R.out [V.agg [V.c (C.str []), V.c (C.sl 5 none false []), V.c (C.sl 3 none false (encL (theK dd (toEs xs) 0)))]] []))))) := by kernel_rfl
end Go.Proofs.YtgaabjmbnomimaaGreatDoor
namespace Go.Proofs.YtgaabjmbnomimaaGreatDoor
open Go Go.Ev
def likeB (h : Ent) (n : Nat) (e : Ent) : Bool := decide (n < e.1.length) && decide (at0 e.1 n = at0 h.1 n)
theorem byte_ne (a b : UInt8) : (((a.toNat : Nat) : Int) != ((b.toNat : Nat) : Int)) = !decide (a = b) := by
  by_cases h : a = b
  · simp [h]
  · have : a.toNat ≠ b.toNat := fun e => h (UInt8.toNat_inj.1 e)
    have h2 : ((a.toNat : Nat) : Int) ≠ ((b.toNat : Nat) : Int) := by omega
    simp [h, h2]
theorem at0_def (p : Bys) (n : Nat) : p.getD n 0 = at0 p n := rfl
theorem inner178 (nl : OBo) (tt : Bool) (h : Ent) (r : List Ent) (n : Nat) (hl : (h :: r).length < 4294967296) (hn : n < 24) (hh : n < h.1.length) :
    p201.ld b201_0 (Tr.ls 0 (s201_0_0 nl tt (ents (h :: r)) n 0)) = if ((h :: r).all (likeB h n)) = true then some (R.s (s201_0 nl tt (ents (h :: r)) ((n + 1 : Nat) : Int))) else some (R.x (x201_0x0 n)) := by
  have h0 : (ents (h :: r)).getD (Int.toNat 0) [] = ee h := rfl
  have h00 : Int.toNat 0 < (h :: r).length := Nat.succ_pos _
  refine ld_post (p := p201) ctOf_nil (by kernel_rfl) (by split <;> rfl) (list_post (p := p201) ctOf_nil (b := b201_0_0) (h :: r).length (fun k (_ : Unit) => s201_0_0 nl tt (ents (h :: r)) n k) (fun k _ => ((h :: r).drop k).all (likeB h n) = (h :: r).all (likeB h n)) _ ?_ ?_ 0 (Nat.zero_le _) () rfl)
  · intro k _ hk hi
    rw [List.drop_eq_getElem_cons hk, List.all_cons] at hi
    have go : p201.ld b201_0_0 (p201.lts b201_0_0 (s201_0_0 nl tt (ents (h :: r)) n k)) = if likeB h n (h :: r)[k] = true then some (R.s (s201_0_0 nl tt (ents (h :: r)) n ((k + 1 : Nat) : Int))) else some (R.x (x201_0_0x0 n)) := by
      rw [t201_0_0]
      unfold likeB
      simp only [ld_br, ld_chk', ld_leaf, fd_br, fd_chk', fd_leaf, decide_true, decide_eq_true_eq, if_true, Int.toNat_natCast, Int.natCast_nonneg, Int.ofNat_lt, Int.ofNat_le, Bool.false_eq_true, if_false, bne_iff_ne, beq_iff_eq, ne_eq, not_true_eq_false, not_false_eq_true, Bool.not_eq_true', decide_eq_false_iff_not, reduceCtorEq, rows_length, pcs_length, er_ok, er_ok', ep_ok, ep_ok', dr_er, dp_ep, isRows_rows, isPcs_pcs, toRows_rows, toPcs_pcs, rows_take, rows_drop, pcs_take, pcs_drop, rows_append, pcs_append, ints_length, isInts_ints, toInts_ints, ei_i, ei_ok, mk_headD, ints_take, ints_drop, ints_append, ints_snoc, ints_snoc', List.take_length, Nat.zero_add, Nat.le_refl, er_a, er_b, er_k, er_n, er_s, er_v, ep_a, ep_b, ep_hk, ep_hn, ep_hs, ep_wk, ep_wn, ep_ws, ents_length, hk, ents_getD hk, h0, h00, ee_ok, ee_p, hh, byte_ne, at0_def, wrap_succ (show k < 9223372036854775807 by omega)]
      by_cases c : n < (h :: r)[k].1.length
      · have : ¬ (((h :: r)[k].1.length : Nat) ≤ n) := by omega
        simp only [c, this, decide_true, if_true, if_false, Bool.true_and, decide_eq_true_eq]
        by_cases d : at0 (h :: r)[k].1 n = at0 h.1 n
        · simp [d]
        · simp [d]
      · have : ((h :: r)[k].1.length : Nat) ≤ n := by omega
        simp [c, this]
    cases c : likeB h n (h :: r)[k] with
    | true =>
      rw [c, if_pos rfl] at go
      rw [c, Bool.true_and] at hi
      exact .inl ⟨(), hi, go⟩
    | false =>
      rw [c, if_neg (by simp)] at go
      rw [c, Bool.false_and] at hi
      refine .inr ⟨x201_0_0x0 n, by simp, ?_, go⟩
      rw [k201_0_0x0, ld_leaf, ← hi]; rfl
  · intro _ hi
    rw [List.drop_length, List.all_nil] at hi
    refine ⟨x201_0_0x1 nl tt (ents (h :: r)) n (h :: r).length, by simp, ?_, ?_⟩
    · rw [k201_0_0x1, ld_leaf, ← hi, wrap_succ (show n < 9223372036854775807 by omega)]; rfl
    · rw [t201_0_0]; simp only [ld_br, ld_chk', ld_leaf, fd_br, fd_chk', fd_leaf, decide_true, decide_eq_true_eq, if_true, Int.toNat_natCast, Int.natCast_nonneg, Int.ofNat_lt, Int.ofNat_le, Bool.false_eq_true, if_false, bne_iff_ne, beq_iff_eq, ne_eq, not_true_eq_false, not_false_eq_true, Bool.not_eq_true', decide_eq_false_iff_not, reduceCtorEq, rows_length, pcs_length, er_ok, er_ok', ep_ok, ep_ok', dr_er, dp_ep, isRows_rows, isPcs_pcs, toRows_rows, toPcs_pcs, rows_take, rows_drop, pcs_take, pcs_drop, rows_append, pcs_append, ints_length, isInts_ints, toInts_ints, ei_i, ei_ok, mk_headD, ints_take, ints_drop, ints_append, ints_snoc, ints_snoc', List.take_length, Nat.zero_add, Nat.le_refl, er_a, er_b, er_k, er_n, er_s, er_v, ep_a, ep_b, ep_hk, ep_hn, ep_hs, ep_wk, ep_wn, ep_ws, ents_length, Int.lt_irrefl]
theorem commonF_cons (h : Ent) (r : List Ent) (f n : Nat) : commonF (h :: r) (f + 1) n = if n ≥ h.1.length ∨ n ≥ 24 then n else if ((h :: r).all (likeB h n)) = true then commonF (h :: r) f (n + 1) else n := rfl
theorem f201 (nl : OBo) (tt : Bool) (l : List Ent) (n : Nat) (hne : l ≠ []) (hl : l.length < 4294967296) (hn : n ≤ 24) : call E 201 [.c (.sl 2 nl tt (ents l)), V.i n] [] = some ([V.i (commonL l n : Nat)], []) := by
  refine call_of (E := E) (sh := sh) (ct := ctOf []) (na := 2) (m := 0) ctOf_nil rfl rfl rfl rfl rfl rfl ?_
  obtain ⟨h, r, rfl⟩ : ∃ h r, l = h :: r := by cases l with | nil => exact absurd rfl hne | cons h r => exact ⟨h, r, rfl⟩
  rw [t201]
  have h0 : (ents (h :: r)).getD (Int.toNat 0) [] = ee h := rfl
  have h00 : Int.toNat 0 < (h :: r).length := Nat.succ_pos _
  refine fd_post (p := p201) ctOf_nil (by kernel_rfl) rfl (loops_post (p := p201) ctOf_nil (b := b201_0) (ι := Nat) (fun k => s201_0 nl tt (ents (h :: r)) k) (fun k => k ≤ 24 ∧ ∃ f, 25 ≤ f + k ∧ commonF (h :: r) f k = commonL (h :: r) n) (fun k => 25 - k) _ ?_ n ⟨hn, 25, by omega, rfl⟩)
  rintro k ⟨hk, f, hf, hc⟩
  obtain ⟨f, rfl⟩ : ∃ g, f = g + 1 := ⟨f - 1, by omega⟩
  rw [commonF_cons] at hc
  have stop : commonL (h :: r) n = k → ∀ X, p201.ld b201_0 X = some (R.x (x201_0x0 k)) → ∃ x : Ex × Fr × Hp, x.1 ≠ .nrm ∧ p201.fd (p201.fkx 0 x) = some (.out [V.i (commonL (h :: r) n : Nat)] []) ∧ p201.ld b201_0 X = some (R.x x) := fun e X hX =>
    ⟨x201_0x0 k, by simp, by rw [k201_0x0, fd_leaf, e], hX⟩
  by_cases c1 : k ≥ h.1.length ∨ k ≥ 24
  · rw [if_pos c1] at hc
    refine .inr (stop hc.symm _ ?_)
    rw [t201_0]
    simp only [ld_br, ld_chk', ld_leaf, fd_br, fd_chk', fd_leaf, decide_true, decide_eq_true_eq, if_true, Int.toNat_natCast, Int.natCast_nonneg, Int.ofNat_lt, Int.ofNat_le, Bool.false_eq_true, if_false, bne_iff_ne, beq_iff_eq, ne_eq, not_true_eq_false, not_false_eq_true, Bool.not_eq_true', decide_eq_false_iff_not, reduceCtorEq, rows_length, pcs_length, er_ok, er_ok', ep_ok, ep_ok', dr_er, dp_ep, isRows_rows, isPcs_pcs, toRows_rows, toPcs_pcs, rows_take, rows_drop, pcs_take, pcs_drop, rows_append, pcs_append, ints_length, isInts_ints, toInts_ints, ei_i, ei_ok, mk_headD, ints_take, ints_drop, ints_append, ints_snoc, ints_snoc', List.take_length, Nat.zero_add, Nat.le_refl, er_a, er_b, er_k, er_n, er_s, er_v, ep_a, ep_b, ep_hk, ep_hn, ep_hs, ep_wk, ep_wn, ep_ws, ents_length, h0, h00, ee_ok, ee_p]
    by_cases d : h.1.length ≤ k
    · rw [if_pos (by omega)]
    · rw [if_neg (by omega), if_pos (by omega)]
  · rw [if_neg c1] at hc
    have go : p201.ld b201_0 (p201.lts b201_0 (s201_0 nl tt (ents (h :: r)) k)) = p201.ld b201_0 (Tr.ls 0 (s201_0_0 nl tt (ents (h :: r)) k 0)) := by
      rw [t201_0]
      simp only [ld_br, ld_chk', decide_eq_true_eq, if_true, ents_length, h0, h00, ee_ok, ee_p, decide_true]
      rw [if_neg (by omega), if_neg (by omega)]
    rw [inner178 nl tt h r k hl (by omega) (by omega)] at go
    by_cases c2 : ((h :: r).all (likeB h k)) = true
    · rw [if_pos c2] at hc go
      exact .inl ⟨k + 1, ⟨by omega, f, by omega, hc⟩, by omega, go⟩
    · rw [if_neg c2] at hc go
      refine .inr ⟨x201_0x0 k, by simp, by rw [k201_0x0, fd_leaf, ← hc], go⟩
theorem s201_ok : CSpecOk E 201 s201 := by
  intro a h cs vals h' he hc
  unfold s201 at he
  split at he <;> simp only [Option.some.injEq, Prod.mk.injEq, reduceCtorEq] at he
  rename_i nl tt xs n
  obtain ⟨rfl, rfl, rfl⟩ := he
  simp only [allT, Bool.and_true, Bool.and_eq_true, decide_eq_true_eq] at hc
  obtain ⟨h1, h2, h3, h4, h5⟩ := hc
  obtain ⟨l, rfl⟩ := ents_ex h1
  rw [ents_length] at h3
  rw [toEs_ents]
  have := f201 nl tt l n.toNat (fun e => h2 (by rw [e]; rfl)) h3 (by omega)
  rw [Int.toNat_of_nonneg h4] at this
  exact this
theorem node_facts (lab : Bys) (rs : List Row) (ks : List Nd) (q : Bys) (n : Nat) (h : okT (.node lab rs ks) n = true) (hq : q.length + n ≤ 24) :
    commonL (pre' q (entT (.node lab rs ks))) q.length = (q ++ lab).length ∧ pre' q (entT (.node lab rs ks)) ≠ [] ∧ (∃ s0, ((pre' q (entT (.node lab rs ks))).headD default).1 = (q ++ lab) ++ s0) ∧
    (rs = [] → ((pre' q (entT (.node lab rs ks))).headD default).1.length ≠ (q ++ lab).length ∧ pre' q (entT (.node lab rs ks)) = pre' (q ++ lab) (entL ks)) ∧
    (rs ≠ [] → pre' q (entT (.node lab rs ks)) = (q ++ lab, rs) :: pre' (q ++ lab) (entL ks)) := by
  obtain ⟨g1, g2, g9003, g9004, g9005⟩ := okT_iff.1 h
  simp only [Nd.rows_node, Nd.kids_node, Nd.lab_node] at g1 g2 g9003 g9004 g9005
  have hl : pre' q (entT (.node lab rs ks)) = pre' (q ++ lab) (ownB rs ++ entL ks) := by rw [entT_pre']; rfl
  have hne : pre' q (entT (.node lab rs ks)) ≠ [] := by
    have := entT_some _ _ h
    simpa [pre'] using this
  have hlen : ∀ e ∈ pre' q (entT (.node lab rs ks)), ∃ s, e.1 = (q ++ lab) ++ s := by
    rw [hl]
    intro e he
    simp only [pre', List.mem_map] at he
    obtain ⟨x, _, rfl⟩ := he
    exact ⟨x.1, rfl⟩
  have hd : ((pre' q (entT (.node lab rs ks))).headD default) ∈ pre' q (entT (.node lab rs ks)) := by
    cases hx : pre' q (entT (.node lab rs ks)) with | nil => exact absurd hx hne | cons a r => simp
  obtain ⟨s0, hs0⟩ := hlen _ hd
  have hkl : ∀ {k : Nd} {r : List Nd}, ks = k :: r → ∃ x xs, entL ks = x :: xs ∧ hdB x.1 = hdB k.lab ∧ x.1 ≠ [] := fun {k r} hk => by
    have h1 := entT_some k _ (g9005.1 k (by rw [hk]; simp))
    cases hx : entT k with
    | nil => exact absurd hx h1
    | cons x xs =>
      obtain ⟨s, hs⟩ := entT_pre k x (by rw [hx]; simp)
      have hkn := (okT_iff.1 (g9005.1 k (by rw [hk]; simp))).1
      exact ⟨x, xs ++ entL r, by rw [hk, entL, hx]; rfl, by rw [hs, hdB_app hkn], by rw [hs]; simp [hkn]⟩
  have hrs : rs = [] → ∃ k1 k2 r, ks = k1 :: k2 :: r := fun c => by
    have h2 : 2 ≤ ks.length := by rcases g9004 with g | g; exact absurd c g; exact g
    match ks, h2 with
    | k1 :: k2 :: r, _ => exact ⟨k1, k2, r, rfl⟩
  have hcom : commonL (pre' q (entT (.node lab rs ks))) q.length = (q ++ lab).length := by
    refine commonF_go _ _ (fun e he => ?_) (by simp; omega) hne (fun n hn e he => ?_) ?_ 25 q.length (by simp) (by simp; omega)
    · obtain ⟨s, hs⟩ := hlen e he
      rw [hs]; simp
    · obtain ⟨s, hs⟩ := hlen e he
      rw [hs, hs0, at0_pre hn, at0_pre hn]
    · by_cases c : rs = []
      · obtain ⟨k1, k2, r, hk⟩ := hrs c
        obtain ⟨x, xs, e1, e2, e3⟩ := hkl hk
        have h3 := entT_some k2 _ (g9005.1 k2 (by rw [hk]; simp))
        cases hy : entT k2 with
        | nil => exact absurd hy h3
        | cons y ys =>
          obtain ⟨s, hs⟩ := entT_pre k2 y (by rw [hy]; simp)
          have hkn := (okT_iff.1 (g9005.1 k2 (by rw [hk]; simp))).1
          have hlt : hdB k1.lab < hdB k2.lab := by have := g9005.2; rw [hk, List.pairwise_cons] at this; exact this.1 k2 (by simp)
          refine .inr (.inr ⟨((q ++ lab) ++ y.1, y.2), ?_, .inr ?_⟩)
          · rw [hl]
            refine List.mem_map_of_mem (f := fun e : Ent => ((q ++ lab) ++ e.1, e.2)) ?_
            rw [List.mem_append]; right
            rw [hk]; simp [entL, hy]
          · have e0 : (pre' q (entT (.node lab rs ks))).headD default = ((q ++ lab) ++ x.1, x.2) := by
              rw [hl, c]
              simp [ownB, e1, pre']
            rw [e0]
            simp only
            rw [at0_app, at0_app]
            refine at0_ne ?_
            rw [e2, hs, hdB_app hkn]; omega
      · left
        rw [hl, ownB, if_neg c]
        simp [pre']
  refine ⟨hcom, hne, ⟨s0, hs0⟩, fun c => ?_, fun c => ?_⟩
  · obtain ⟨k1, k2, r, hk⟩ := hrs c
    obtain ⟨x, xs, e1, e2, e3⟩ := hkl hk
    have e0 : pre' q (entT (.node lab rs ks)) = pre' (q ++ lab) (entL ks) := by rw [hl, c]; rfl
    refine ⟨?_, e0⟩
    rw [e0, e1]
    simp only [pre', List.map_cons, List.headD_cons, List.length_append]
    have := List.length_pos_iff.2 e3
    omega
  · rw [hl, ownB, if_neg c]; simp [pre']
theorem f175 (dd : Nat) (ih : CSpecOk E 133 (s133 dd)) (nl : OBo) (tt : Bool) (l : List Ent) (n : Int) (t : Nd) (hl : l.length < 4294967295) (ht : IsN (dd + 1) l n t) :
    call E 175 [.c (.sl 2 nl tt (ents l)), V.i n] [] = some ([VT t], []) := by
  have hct : (ctOf [(201, s201), (133, s133 dd)]).ok E := ctOf_cons s201_ok (ctOf_cons ih ctOf_nil)
  refine call_of (E := E) (sh := sh) (ct := ctOf [(201, s201), (133, s133 dd)]) (na := 2) (m := 0) hct rfl rfl rfl rfl rfl rfl ?_
  show (p175 dd).fd ((p175 dd).ft _ _) = _
  obtain ⟨q, m, h1, h2, h3, rfl, rfl⟩ := ht
  obtain ⟨lab, rs, ks⟩ := t
  obtain ⟨a1, a2, ⟨s0, a3⟩, a4, a5⟩ := node_facts lab rs ks q m h1 h2
  have hk : kidsOk ks (m - lab.length) := (okT_iff.1 h1).2.2.2.2
  have hlm : lab.length ≤ m := (okT_iff.1 h1).2.1
  have hdk : depL ks < dd := by rw [depT_eq] at h3; simp only [Nd.kids_node] at h3; omega
  obtain ⟨b1, b2⟩ := theK_eq (d := dd) (l := pre' (q ++ lab) (entL ks)) (n := ((q ++ lab).length : Nat)) ⟨q ++ lab, m - lab.length, hk, by simp; omega, hdk, rfl, rfl⟩
  generalize hL : pre' q (entT (.node lab rs ks)) = L at *
  obtain ⟨h, r, rfl⟩ : ∃ h r, L = h :: r := by cases L with | nil => exact absurd rfl a2 | cons h r => exact ⟨h, r, rfl⟩
  have h0 : (ents (h :: r)).getD (Int.toNat 0) [] = ee h := rfl
  have h00 : Int.toNat 0 < (h :: r).length := Nat.succ_pos _
  have h01 : Int.toNat 1 ≤ (h :: r).length := Nat.succ_pos _
  have hne : ents (h :: r) ≠ [] := by simp [ents]
  have hl2 : (h :: r).length < 4294967296 := by omega
  have a3' : h.1 = (q ++ lab) ++ s0 := a3
  have hqn : (q.length : Int) ≤ 24 := by omega
  have hcl : q.length ≤ (q ++ lab).length := by simp
  have hch : (q ++ lab).length ≤ h.1.length := by rw [a3']; simp
  have htk : List.drop q.length (List.take (q ++ lab).length h.1) = lab := by rw [a3', List.take_left' rfl]; simp
  have hdr : List.drop (Int.toNat 1) (ents (h :: r)) = ents r := rfl
  rw [t175]
  by_cases c : rs = []
  · obtain ⟨c1, c2⟩ := a4 c
    have c1' : ((h.1.length : Int) == (((q ++ lab).length : Nat) : Int)) = false := by rw [beq_eq_false_iff_ne]; intro e; exact c1 (show h.1.length = (q ++ lab).length by omega)
    rw [← c2] at b1 b2
    simp only [fd_br, fd_chk', fd_leaf, if_true, isEs_ents, toEs_ents, ents_length, hl, hl2, hne, ne_eq, not_false_eq_true, decide_true, Int.natCast_nonneg, hqn, Int.toNat_natCast, a1, h0, h00, ee_ok, ee_p, hcl, hch, c1', Bool.false_eq_true, if_false, b1, b2, htk]
    subst c; rfl
  · have c2 := a5 c
    obtain ⟨rfl, rfl⟩ : h = (q ++ lab, rs) ∧ r = pre' (q ++ lab) (entL ks) := by simpa using c2
    have c1' : ((((q ++ lab, rs) : Ent).1.length : Int) == (((q ++ lab).length : Nat) : Int)) = true := by simp
    have hle : ∀ n : Nat, decide (n ≤ n) = true := fun n => by simp
    have hrl : (pre' (q ++ lab) (entL ks)).length < 4294967295 := by rw [List.length_cons] at hl; omega
    have htl : List.take (((q ++ lab, rs) : Ent) :: pre' (q ++ lab) (entL ks)).length (ents (((q ++ lab, rs) : Ent) :: pre' (q ++ lab) (entL ks))) = ents (((q ++ lab, rs) : Ent) :: pre' (q ++ lab) (entL ks)) := ents_take _ _ rfl
    simp only [fd_br, fd_chk', fd_leaf, if_true, isEs_ents, toEs_ents, ents_length, hl, hl2, hne, ne_eq, not_false_eq_true, decide_true, Int.natCast_nonneg, hqn, Int.toNat_natCast, a1, h0, h00, h01, ee_ok, ee_p, ee_r, hcl, hch, c1', b1, b2, htk, hle, htl, hdr, hrl]
    rfl
theorem s175_of (dd : Nat) (ih : CSpecOk E 133 (s133 dd)) : CSpecOk E 175 (s175 dd) := by
  intro a h cs vals h' he hc
  unfold s175 at he
  split at he <;> simp only [Option.some.injEq, Prod.mk.injEq, reduceCtorEq] at he
  rename_i nl tt xs n
  obtain ⟨rfl, rfl, rfl⟩ := he
  simp only [allT, Bool.and_true, Bool.and_eq_true, decide_eq_true_eq] at hc
  obtain ⟨h1, h2, h3⟩ := hc
  obtain ⟨l, rfl⟩ := ents_ex h1
  rw [ents_length] at h2
  rw [toEs_ents] at h3 ⊢
  obtain ⟨t, ht⟩ := hasN_ex h3
  rw [(theN_eq ht).2]
  exact f175 dd ih nl tt l n t h2 ht
abbrev posE (ks : List Nd) (j : Nat) : Nat := (entL (ks.take j)).length
theorem posE_succ {ks : List Nd} {j : Nat} (h : j < ks.length) : posE ks (j + 1) = posE ks j + (entT ks[j]).length := by
  unfold posE; rw [entL_take h, List.length_append]
theorem posE_le (ks : List Nd) (j : Nat) : posE ks j ≤ (entL ks).length := entL_take_le ks j
theorem entL_parts {ks : List Nd} {j : Nat} (h : j < ks.length) : entL ks = entL (ks.take j) ++ (entT ks[j] ++ entL (ks.drop (j + 1))) := by
  have := congrArg entL (List.take_append_drop (j + 1) ks).symm
  rw [entL_app, entL_take h, List.append_assoc] at this
  exact this
theorem pre'_len (q : Bys) (l : List Ent) : (pre' q l).length = l.length := List.length_map _
theorem entL_at {ks : List Nd} {j k : Nat} (h : j < ks.length) (hk : k < (entT ks[j]).length) (q : Bys) : (pre' q (entL ks))[posE ks j + k]? = some (q ++ (entT ks[j])[k].1, (entT ks[j])[k].2) := by
  rw [pre', List.getElem?_map, entL_parts h, List.getElem?_append_right (Nat.le_add_right _ _), Nat.add_sub_cancel_left, List.getElem?_append_left hk, List.getElem?_eq_getElem hk]
  rfl
theorem byte_eq (a b : UInt8) : (((a.toNat : Nat) : Int) == ((b.toNat : Nat) : Int)) = decide (a = b) := by
  have := byte_ne a b
  rw [bne] at this
  cases h : (((a.toNat : Nat) : Int) == ((b.toNat : Nat) : Int)) <;> rw [h] at this <;> simpa using this
theorem entry_at {ks : List Nd} {n j k : Nat} (hk : kidsOk ks n) (h : j < ks.length) (hl : k < (entT ks[j]).length) (q : Bys) : q.length < (q ++ (entT ks[j])[k].1).length ∧ at0 (q ++ (entT ks[j])[k].1) q.length = at0 ks[j].lab 0 := by
  obtain ⟨s, hs⟩ := entT_pre ks[j] _ (List.getElem_mem hl)
  have hne := (okT_iff.1 (hk.1 _ (List.getElem_mem h))).1
  have hlp := List.length_pos_iff.2 hne
  rw [hs]
  refine ⟨by simp; omega, ?_⟩
  rw [at0_app]
  exact at0_hd (hdB_app hne)
theorem inner132 (dd : Nat) (hct : (ctOf [(175, s175 dd)]).ok E) (nl : OBo) (tt : Bool) {ks : List Nd} {n : Nat} (q : Bys) (hk : kidsOk ks n) (hq : q.length + n ≤ 24) (hd : depL ks < dd + 1) (hl : (entL ks).length < 4294967295) (hkl : ks.length < 4294967295) {j : Nat} (hj : j < ks.length) :
    (p133 dd).ld b133_0 (Tr.ls 0 (s133_0_0 nl tt (ents (pre' q (entL ks))) q.length j (posE ks j) (posE ks j) (encL (ks.take j)))) = some (R.s (s133_0 nl tt (ents (pre' q (entL ks))) q.length ((j + 1 : Nat)) (posE ks (j + 1) : Nat) (encL (ks.take (j + 1))))) := by
  have hlen : (pre' q (entL ks)).length = (entL ks).length := pre'_len _ _
  have hpl := posE_le ks (j + 1)
  have hps := posE_succ hj
  have hT := hk.1 _ (List.getElem_mem hj)
  have hpos := List.length_pos_iff.2 (entT_some _ _ hT)
  -- an entry of this kid
  have at_ : ∀ k, (hk2 : k < (entT ks[j]).length) → ∃ e : Ent, ∃ h : posE ks j + k < (pre' q (entL ks)).length, (pre' q (entL ks))[posE ks j + k] = e ∧ q.length < e.1.length ∧ at0 e.1 q.length = at0 ks[j].lab 0 := fun k hk2 => by
    obtain ⟨h1, h2⟩ := List.getElem?_eq_some_iff.1 (entL_at hj hk2 q)
    exact ⟨_, h1, h2, (entry_at hk hj hk2 q).1, (entry_at hk hj hk2 q).2⟩
  obtain ⟨e0, h0, e0e, e0l, e0b⟩ := at_ 0 hpos
  rw [Nat.add_zero] at h0
  have e0e' : (pre' q (entL ks))[posE ks j] = e0 := by rw [← e0e]; rfl
  refine ld_post (p := p133 dd) hct (by kernel_rfl) rfl (list_post (p := p133 dd) hct (b := b133_0_0) (entT ks[j]).length (fun k (_ : Unit) => s133_0_0 nl tt (ents (pre' q (entL ks))) q.length j (posE ks j) ((posE ks j + k : Nat)) (encL (ks.take j))) (fun _ _ => True) _ ?_ ?_ 0 (Nat.zero_le _) () trivial)
  · intro k _ hk2 _
    refine .inl ⟨(), trivial, ?_⟩
    obtain ⟨e, h1, h2, h3, h4⟩ := at_ k hk2
    rw [t133_0_0]
    simp only [ld_br, ld_chk', ld_leaf, fd_br, fd_chk', fd_leaf, decide_true, decide_eq_true_eq, if_true, Int.toNat_natCast, Int.natCast_nonneg, Int.ofNat_lt, Int.ofNat_le, Bool.false_eq_true, if_false, bne_iff_ne, beq_iff_eq, ne_eq, not_true_eq_false, not_false_eq_true, Bool.not_eq_true', decide_eq_false_iff_not, reduceCtorEq, rows_length, pcs_length, er_ok, er_ok', ep_ok, ep_ok', dr_er, dp_ep, isRows_rows, isPcs_pcs, toRows_rows, toPcs_pcs, rows_take, rows_drop, pcs_take, pcs_drop, rows_append, pcs_append, ints_length, isInts_ints, toInts_ints, ei_i, ei_ok, mk_headD, ints_take, ints_drop, ints_append, ints_snoc, ints_snoc', List.take_length, Nat.zero_add, Nat.le_refl, er_a, er_b, er_k, er_n, er_s, er_v, ep_a, ep_b, ep_hk, ep_hn, ep_hs, ep_wk, ep_wn, ep_ws, ents_length, h1, h0, ents_getD h1, ents_getD h0, e0e', h2, ee_ok, ee_p, h3, e0l, byte_eq, at0_def, h4, e0b, wrap_succ (show posE ks j + k < 9223372036854775807 by omega)]
    rfl
  · intro _ _
    refine ⟨x133_0_0x0 nl tt (ents (pre' q (entL ks))) q.length j (posE ks j) ((posE ks (j + 1) : Nat)) (encL (ks.take j)), by simp, ?_, ?_⟩
    · have hsl : List.drop (posE ks j) (List.take (posE ks (j + 1)) (ents (pre' q (entL ks)))) = ents (pre' q (entT ks[j])) := by
        unfold ents
        rw [← List.map_take, ← List.map_drop]
        congr 1
        unfold pre'
        rw [← List.map_take, ← List.map_drop]
        congr 1
        rw [entL_parts hj, hps, ← List.append_assoc, List.take_left' (by rw [List.length_append]), List.drop_left']
        rfl
      obtain ⟨b1, b2⟩ := theN_eq (d := dd + 1) (l := pre' q (entT ks[j])) (n := (q.length : Nat)) ⟨q, n, hT, hq, by have := depL_mem (List.getElem_mem hj); omega, rfl, rfl⟩
      have hle : (pre' q (entT ks[j])).length < 4294967295 := by rw [pre'_len]; omega
      have hp1 : posE ks j ≤ posE ks (j + 1) := by omega
      have hp2 : posE ks (j + 1) ≤ (pre' q (entL ks)).length := by omega
      have htk : List.take j (encL (ks.take j)) = encL (ks.take j) := List.take_of_length_le (by simp; omega)
      have hsn : encL (ks.take j) ++ [[C.str ks[j].lab, C.sl 5 none false (rows ks[j].rows), C.sl 3 none false (encL ks[j].kids)]] = encL (ks.take (j + 1)) := by
        rw [← Nd.enc_eq, List.take_succ_eq_append_getElem hj, encL_map, encL_map, List.map_append]; rfl
      rw [k133_0_0x0]
      simp only [ld_chk', ld_leaf, if_true, ents_length, Int.natCast_nonneg, Int.toNat_natCast, decide_true, hp1, hp2, hsl, isEs_ents, toEs_ents, hle, b1, b2, htk, hsn, show j + 1 < 4294967296 by omega]
    · rw [t133_0_0, ← hps]
      by_cases hj2 : j + 1 < ks.length
      · have hT2 := hk.1 _ (List.getElem_mem hj2)
        have hpos2 := List.length_pos_iff.2 (entT_some _ _ hT2)
        obtain ⟨h1, h2⟩ := List.getElem?_eq_some_iff.1 (entL_at hj2 hpos2 q)
        rw [Nat.add_zero] at h1
        obtain ⟨n1, n2⟩ := entry_at hk hj2 hpos2 q
        have h2' : (pre' q (entL ks))[posE ks (j + 1)] = (q ++ (entT ks[j + 1])[0].1, (entT ks[j + 1])[0].2) := by rw [← h2]; rfl
        have hlt : hdB ks[j].lab < hdB ks[j + 1].lab := List.pairwise_iff_getElem.1 hk.2 j (j + 1) hj hj2 (by omega)
        have hne : ¬ at0 ks[j + 1].lab 0 = at0 ks[j].lab 0 := at0_ne (by omega)
        simp only [ld_br, ld_chk', ld_leaf, fd_br, fd_chk', fd_leaf, decide_true, decide_eq_true_eq, if_true, Int.toNat_natCast, Int.natCast_nonneg, Int.ofNat_lt, Int.ofNat_le, Bool.false_eq_true, if_false, bne_iff_ne, beq_iff_eq, ne_eq, not_true_eq_false, not_false_eq_true, Bool.not_eq_true', decide_eq_false_iff_not, reduceCtorEq, rows_length, pcs_length, er_ok, er_ok', ep_ok, ep_ok', dr_er, dp_ep, isRows_rows, isPcs_pcs, toRows_rows, toPcs_pcs, rows_take, rows_drop, pcs_take, pcs_drop, rows_append, pcs_append, ints_length, isInts_ints, toInts_ints, ei_i, ei_ok, mk_headD, ints_take, ints_drop, ints_append, ints_snoc, ints_snoc', List.take_length, Nat.zero_add, Nat.le_refl, er_a, er_b, er_k, er_n, er_s, er_v, ep_a, ep_b, ep_hk, ep_hn, ep_hs, ep_wk, ep_wn, ep_ws, ents_length, h1, h0, ents_getD h1, ents_getD h0, e0e', h2', ee_ok, ee_p, n1, e0l, byte_eq, at0_def, n2, e0b, hne]
      · have : posE ks (j + 1) = (entL ks).length := by
          unfold posE; rw [List.take_of_length_le (by omega)]
        have hn : ¬ (((posE ks (j + 1) : Nat) : Int) < ((pre' q (entL ks)).length : Nat)) := by omega
        simp only [ld_br, ld_chk', ld_leaf, fd_br, fd_chk', fd_leaf, decide_true, decide_eq_true_eq, if_true, Int.toNat_natCast, Int.natCast_nonneg, Int.ofNat_lt, Int.ofNat_le, Bool.false_eq_true, if_false, bne_iff_ne, beq_iff_eq, ne_eq, not_true_eq_false, not_false_eq_true, Bool.not_eq_true', decide_eq_false_iff_not, reduceCtorEq, rows_length, pcs_length, er_ok, er_ok', ep_ok, ep_ok', dr_er, dp_ep, isRows_rows, isPcs_pcs, toRows_rows, toPcs_pcs, rows_take, rows_drop, pcs_take, pcs_drop, rows_append, pcs_append, ints_length, isInts_ints, toInts_ints, ei_i, ei_ok, mk_headD, ints_take, ints_drop, ints_append, ints_snoc, ints_snoc', List.take_length, Nat.zero_add, Nat.le_refl, er_a, er_b, er_k, er_n, er_s, er_v, ep_a, ep_b, ep_hk, ep_hn, ep_hs, ep_wk, ep_wn, ep_ws, ents_length, hlen, this, Int.lt_irrefl]
theorem kids_le_ents {ks : List Nd} {n : Nat} (h : kidsOk ks n) : ks.length ≤ (entL ks).length := by
  induction ks with
  | nil => simp
  | cons t r ih =>
    have h1 := List.length_pos_iff.2 (entT_some t n (h.1 t (by simp)))
    have h2 := ih (kidsOk_sub h (List.sublist_cons_self _ _))
    rw [entL, List.length_append, List.length_cons]; omega
theorem f133 (dd : Nat) (ih : CSpecOk E 175 (s175 dd)) (nl : OBo) (tt : Bool) (l : List Ent) (n : Int) (ks : List Nd) (hl : l.length < 4294967295) (ht : IsK (dd + 1) l n ks) :
    call E 133 [.c (.sl 2 nl tt (ents l)), V.i n] [] = some ([.c (.sl 3 none false (encL ks))], []) := by
  have hct : (ctOf [(175, s175 dd)]).ok E := ctOf_cons ih ctOf_nil
  refine call_of (E := E) (sh := sh) (ct := ctOf [(175, s175 dd)]) (na := 2) (m := 0) hct rfl rfl rfl rfl rfl rfl ?_
  show (p133 dd).fd ((p133 dd).ft _ _) = _
  obtain ⟨q, m, h1, h2, h3, rfl, rfl⟩ := ht
  rw [pre'_len] at hl
  have hkl := kids_le_ents h1
  rw [t133]
  refine fd_post (p := p133 dd) hct (by kernel_rfl) rfl (list_post (p := p133 dd) hct (b := b133_0) ks.length (fun j (_ : Unit) => s133_0 nl tt (ents (pre' q (entL ks))) q.length j (posE ks j : Nat) (encL (ks.take j))) (fun _ _ => True) _ ?_ ?_ 0 (Nat.zero_le _) () trivial)
  · intro j _ hj _
    refine .inl ⟨(), trivial, ?_⟩
    have hps := posE_succ hj
    have hpos := List.length_pos_iff.2 (entT_some _ _ (h1.1 _ (List.getElem_mem hj)))
    have hple := posE_le ks (j + 1)
    rw [t133_0, ld_br, if_pos (by rw [ents_length, pre'_len]; exact decide_eq_true (by omega))]
    exact inner132 dd hct nl tt q h1 h2 h3 (by omega) (by omega) hj
  · intro _ _
    have he : posE ks ks.length = (entL ks).length := by unfold posE; rw [List.take_length]
    refine ⟨x133_0x0 nl tt (ents (pre' q (entL ks))) q.length ks.length (posE ks ks.length : Nat) (encL (ks.take ks.length)), by simp, ?_, ?_⟩
    · rw [k133_0x0, fd_leaf, List.take_length, List.take_of_length_le (by simp)]
    · rw [t133_0, he]; simp only [ld_br, ld_chk', ld_leaf, fd_br, fd_chk', fd_leaf, decide_true, decide_eq_true_eq, if_true, Int.toNat_natCast, Int.natCast_nonneg, Int.ofNat_lt, Int.ofNat_le, Bool.false_eq_true, if_false, bne_iff_ne, beq_iff_eq, ne_eq, not_true_eq_false, not_false_eq_true, Bool.not_eq_true', decide_eq_false_iff_not, reduceCtorEq, rows_length, pcs_length, er_ok, er_ok', ep_ok, ep_ok', dr_er, dp_ep, isRows_rows, isPcs_pcs, toRows_rows, toPcs_pcs, rows_take, rows_drop, pcs_take, pcs_drop, rows_append, pcs_append, ints_length, isInts_ints, toInts_ints, ei_i, ei_ok, mk_headD, ints_take, ints_drop, ints_append, ints_snoc, ints_snoc', List.take_length, Nat.zero_add, Nat.le_refl, er_a, er_b, er_k, er_n, er_s, er_v, ep_a, ep_b, ep_hk, ep_hn, ep_hs, ep_wk, ep_wn, ep_ws, ents_length, pre'_len, Int.lt_irrefl]
theorem s133_ok : ∀ d, CSpecOk E 133 (s133 d)
  | 0 => by
    intro a h cs vals h' he hc
    unfold s133 at he
    split at he <;> simp only [Option.some.injEq, Prod.mk.injEq, reduceCtorEq] at he
    obtain ⟨rfl, rfl, rfl⟩ := he
    simp only [allT, Bool.and_true, Bool.and_eq_true, decide_eq_true_eq] at hc
    obtain ⟨t, q, m, _, _, h, _⟩ := hasK_ex hc.2.2
    omega
  | d + 1 => by
    intro a h cs vals h' he hc
    unfold s133 at he
    split at he <;> simp only [Option.some.injEq, Prod.mk.injEq, reduceCtorEq] at he
    rename_i nl tt xs n
    obtain ⟨rfl, rfl, rfl⟩ := he
    simp only [allT, Bool.and_true, Bool.and_eq_true, decide_eq_true_eq] at hc
    obtain ⟨h1, h2, h3⟩ := hc
    obtain ⟨l, rfl⟩ := ents_ex h1
    rw [ents_length] at h2
    rw [toEs_ents] at h3 ⊢
    obtain ⟨t, ht⟩ := hasK_ex h3
    rw [(theK_eq ht).2]
    exact f133 d (s175_of d (s133_ok d)) nl tt l n t (by omega) ht
theorem f73 (dd : Nat) (nl : OBo) (tt : Bool) (l : List Ent) (ks : List Nd) (hl : l.length < 4294967295) (ht : IsK dd l 0 ks) : call E 73 [.c (.sl 2 nl tt (ents l))] [] = some ([VT (.node [] [] ks)], []) := by
  refine call_of (E := E) (sh := sh) (ct := ctOf [(133, s133 dd)]) (na := 1) (m := 0) (ctOf_cons (s133_ok dd) ctOf_nil) rfl rfl rfl rfl rfl rfl ?_
  show (p73 dd).fd ((p73 dd).ft _ _) = _
  obtain ⟨b1, b2⟩ := theK_eq ht
  rw [t73]
  simp only [fd_chk', fd_leaf, if_true, isEs_ents, toEs_ents, ents_length, hl, decide_true, b1, b2]
  rfl
noncomputable def s73 (dd : Nat) : CSpec := fun a h => match a, h with
  | [.c (.sl 2 nl tt xs)], [] => some ([isEs xs, decide (xs.length < 4294967295), hasK dd (toEs xs) 0], [VT (.node [] [] (theK dd (toEs xs) 0))], [])
  | _, _ => none
theorem s73_ok (dd : Nat) : CSpecOk E 73 (s73 dd) := by
  intro a h cs vals h' he hc
  unfold s73 at he
  split at he <;> simp only [Option.some.injEq, Prod.mk.injEq, reduceCtorEq] at he
  rename_i nl tt xs
  obtain ⟨rfl, rfl, rfl⟩ := he
  simp only [allT, Bool.and_true, Bool.and_eq_true, decide_eq_true_eq] at hc
  obtain ⟨h1, h2, h3⟩ := hc
  obtain ⟨l, rfl⟩ := ents_ex h1
  rw [ents_length] at h2
  rw [toEs_ents] at h3 ⊢
  obtain ⟨t, ht⟩ := hasK_ex h3
  rw [(theK_eq ht).2]
  exact f73 dd nl tt l t (by omega) ht
end Go.Proofs.YtgaabjmbnomimaaGreatDoor
namespace Go.Proofs.YtgaabjmbnomimaaGreatDoor
open Go Go.Ev
-- cse
noncomputable abbrev p22 : Par := par E sh (ctOf []) 22 1 0
abbrev s22_0 (nl : OBo) (tt : Bool) (xs : LLC) (i3 : Int) : Fr × Hp := ([(0, V.c (C.sl 5 nl tt xs)), (3, V.c (C.int IntKind.i64 i3))], [])
noncomputable abbrev b22_0 : Code := loopAt (codeOf E (22)) 0
abbrev x22_0x0 : Ex × Fr × Hp := (Ex.ret, [(2, V.c (C.bool false))], [])
abbrev x22_0x1 (nl : OBo) (tt : Bool) (xs : LLC) (i3 : Int) : Ex × Fr × Hp := (Ex.exit 0, [(0, V.c (C.sl 5 nl tt xs)), (3, V.c (C.int IntKind.i64 i3)), (10, V.c (C.bool false))], [])
theorem t22_0 (nl : OBo) (tt : Bool) (xs : LLC) (i3 : Int) : p22.lts b22_0 (s22_0 nl tt xs i3) = (Tr.br (decide (i3 < (↑xs.length : Int))) (Tr.chk (decide (0 ≤ i3)) (Tr.chk true (Tr.chk (decide (i3.toNat < xs.length)) (Tr.chk (shOk [Sk.int IntKind.i64, Sk.int IntKind.i64, Sk.int IntKind.i64, Sk.int IntKind.i64, Sk.str] (xs.getD i3.toNat [])) (Tr.br (decide (100 < (↑((xs.getD i3.toNat []).tail.tail.tail.tail.headD C.pnil).st.length : Int))) (Tr.leaf (R.x x22_0x0)) (Tr.leaf (R.s (s22_0 nl tt xs (IntKind.i64.wrap (i3 + 1)))))))))) (Tr.leaf (R.x (x22_0x1 nl tt xs i3)))) := by kernel_rfl
theorem k22_0x0 : p22.fkx 0 x22_0x0 = (Tr.leaf (R.out [V.c (C.bool false)] [])) := by kernel_rfl
theorem k22_0x1 (nl : OBo) (tt : Bool) (xs : LLC) (i3 : Int) : p22.fkx 0 (x22_0x1 nl tt xs i3) = (Tr.leaf (R.out [V.c (C.bool true)] [])) := by kernel_rfl
theorem t22 (nl : OBo) (tt : Bool) (xs : LLC) : p22.ft ([V.c (C.sl 5 nl tt xs)]) ([]) = (Tr.br (decide (70 < (↑xs.length : Int))) (Tr.leaf (R.out [V.c (C.bool false)] [])) (Tr.ls 0 (s22_0 nl tt xs (0)))) := by kernel_rfl
def s22 : CSpec := fun a h => match a, h with
  | [.c (.sl 5 nl tt xs)], [] => some ([isRows xs], [V.b (shortR (toRows xs))], [])
  | _, _ => none
variable (dd : Nat)
def s63 : CSpec := fun a h => match a, h with
  | [.agg [.c (.str s), .c (.sl 5 rn rt xs), .c (.sl 3 kn kt ys)], .c (.int .i64 n), .c (.int .i64 d)], [] => some ([isRows xs, isL ys, decide (depL (decL ys) < dd), decide (0 ≤ n), decide (n ≤ 1000), decide (-1000 ≤ d), decide (d ≤ 1000), lensT (.node s (toRows xs) (decL ys))], [V.i (leftT (.node s (toRows xs) (decL ys)) n d)], [])
  | _, _ => none
noncomputable abbrev p63 : Par := par E sh (ctOf [(22, s22), (63, s63 dd)]) 63 3 0
abbrev s63_0 (s : Bys) (rn : OBo) (rt : Bool) (xs : LLC) (kn : OBo) (kt : Bool) (ys : LLC) (d : Int) (i1 : Int) (i7 : Int) : Fr × Hp := ([(1, V.c (C.int IntKind.i64 i1)), (2, V.c (C.int IntKind.i64 d)), (3, V.ptr 0 0 0 0), (7, V.c (C.int IntKind.i64 i7))], [O.box [V.c (C.str s), V.c (C.sl 5 rn rt xs), V.c (C.sl 3 kn kt ys)]])
noncomputable abbrev b63_0 : Code := loopAt (codeOf E (63)) 0
abbrev x63_0x0 (s : Bys) (rn : OBo) (rt : Bool) (xs : LLC) (kn : OBo) (kt : Bool) (ys : LLC) (d : Int) (i1 : Int) (i7 : Int) : Ex × Fr × Hp := (Ex.exit 0, [(1, V.c (C.int IntKind.i64 i1)), (2, V.c (C.int IntKind.i64 d)), (3, V.ptr 0 0 0 0), (7, V.c (C.int IntKind.i64 i7)), (35, V.c (C.bool false))], [O.box [V.c (C.str s), V.c (C.sl 5 rn rt xs), V.c (C.sl 3 kn kt ys)]])
theorem t63_0 (s : Bys) (rn : OBo) (rt : Bool) (xs : LLC) (kn : OBo) (kt : Bool) (ys : LLC) (d : Int) (i1 : Int) (i7 : Int) : (p63 dd).lts b63_0 (s63_0 s rn rt xs kn kt ys d i1 i7) = (Tr.br (decide (i7 < (↑ys.length : Int))) (Tr.br (decide (0 < i1)) (Tr.chk (decide (0 ≤ i7)) (Tr.chk true (Tr.chk (decide (i7.toNat < ys.length)) (Tr.chk (shOk [Sk.str, Sk.sl 5, Sk.sl 3] (ys.getD i7.toNat [])) (Tr.chk (isRows ((ys.getD i7.toNat []).tail.headD C.pnil).xs) (Tr.chk (isL ((ys.getD i7.toNat []).tail.tail.headD C.pnil).xs) (Tr.chk (decide (depL (decL ((ys.getD i7.toNat []).tail.tail.headD C.pnil).xs) < dd)) (Tr.chk (decide (0 ≤ i1)) (Tr.chk (decide (i1 ≤ 1000)) (Tr.chk (decide (-1000 ≤ IntKind.i64.wrap (d - 1))) (Tr.chk (decide (IntKind.i64.wrap (d - 1) ≤ 1000)) (Tr.chk (lensT (Nd.node ((ys.getD i7.toNat []).headD C.pnil).st (toRows ((ys.getD i7.toNat []).tail.headD C.pnil).xs) (decL ((ys.getD i7.toNat []).tail.tail.headD C.pnil).xs))) (Tr.leaf (R.s (s63_0 s rn rt xs kn kt ys d (leftT (Nd.node ((ys.getD i7.toNat []).headD C.pnil).st (toRows ((ys.getD i7.toNat []).tail.headD C.pnil).xs) (decL ((ys.getD i7.toNat []).tail.tail.headD C.pnil).xs)) i1 (IntKind.i64.wrap (d - 1))) (IntKind.i64.wrap (i7 + 1))))))))))))))))) (Tr.leaf (R.x (x63_0x0 s rn rt xs kn kt ys d i1 i7)))) (Tr.leaf (R.x (x63_0x0 s rn rt xs kn kt ys d i1 i7)))) := by kernel_rfl
theorem k63_0x0 (dd : Nat) (s : Bys) (rn : OBo) (rt : Bool) (xs : LLC) (kn : OBo) (kt : Bool) (ys : LLC) (d : Int) (i1 : Int) (i7 : Int) : (p63 dd).fkx 0 (x63_0x0 s rn rt xs kn kt ys d i1 i7) = (Tr.leaf (R.out [V.c (C.int IntKind.i64 i1)] [])) := by kernel_rfl
theorem t63 (s : Bys) (rn : OBo) (rt : Bool) (xs : LLC) (kn : OBo) (kt : Bool) (ys : LLC) (n : Int) (d : Int) : (p63 dd).ft ([V.agg [V.c (C.str s), V.c (C.sl 5 rn rt xs), V.c (C.sl 3 kn kt ys)], V.i n, V.i d]) ([]) = (Tr.chk true (Tr.br (decide (d < 1)) (Tr.leaf (R.out [V.c (C.int IntKind.i64 0)] [])) (Tr.br (decide (IntKind.i64.wrap (IntKind.i64.wrap (n - 1) - IntKind.i64.wrap ((↑s.length : Int).tdiv 50)) < 1)) (Tr.leaf (R.out [V.c (C.int IntKind.i64 0)] [])) (Tr.chk (isRows xs) (Tr.br (!shortR (toRows xs)) (Tr.leaf (R.out [V.c (C.int IntKind.i64 0)] [])) (Tr.ls 0 (s63_0 s rn rt xs kn kt ys d (IntKind.i64.wrap (IntKind.i64.wrap (n - 1) - IntKind.i64.wrap ((↑s.length : Int).tdiv 50))) (0)))))))) := by kernel_rfl
noncomputable abbrev p21 : Par := par E sh (ctOf [(63, s63 dd)]) 21 1 0
theorem t21 (s : Bys) (rn : OBo) (rt : Bool) (xs : LLC) (kn : OBo) (kt : Bool) (ys : LLC) : (p21 dd).ft ([V.agg [V.c (C.str s), V.c (C.sl 5 rn rt xs), V.c (C.sl 3 kn kt ys)]]) ([]) = (Tr.chk (isRows xs) (Tr.chk (isL ys) (Tr.chk (decide (depL (decL ys) < dd)) (Tr.chk true (Tr.chk true (Tr.chk true (Tr.chk true (Tr.chk (lensT (Nd.node s (toRows xs) (decL ys))) (Tr.leaf (R.out [V.c (C.bool (decide (0 < leftT (Nd.node s (toRows xs) (decL ys)) 400 60)))] [])))))))))) := by kernel_rfl
def smallR (n : Int) (t : Nd) : Bool := decide (0 < leftT t n 60)
def s21 : CSpec := fun a h => match a, h with
  | [.agg [.c (.str s), .c (.sl 5 rn rt xs), .c (.sl 3 kn kt ys)]], [] => some ([isRows xs, isL ys, lensT (.node s (toRows xs) (decL ys))], [V.b (smallR 400 (.node s (toRows xs) (decL ys)))], [])
  | _, _ => none
def s23 : CSpec := fun a h => match a, h with
  | [], [] => some ([], [V.b true], [])
  | _, _ => none
end Go.Proofs.YtgaabjmbnomimaaGreatDoor
namespace Go.Proofs.YtgaabjmbnomimaaGreatDoor
open Go Go.Ev
theorem f22 (l : List Row) (nl : OBo) (tt : Bool) : call E 22 [.c (.sl 5 nl tt (rows l))] [] = some ([V.b (shortR l)], []) := by
  have hct : (ctOf []).ok E := ctOf_nil
  refine call_of (E := E) (sh := sh) (ct := ctOf []) (na := 1) (m := 0) hct rfl rfl rfl rfl rfl rfl ?_
  rw [t22, rows_length, fd_br]
  unfold shortR
  by_cases c0 : (70 : Int) < l.length
  · rw [if_pos (by simpa using c0), fd_leaf]
    have : ¬ l.length ≤ 70 := by omega
    simp [this]
  rw [if_neg (by simpa using c0)]
  have c0' : l.length ≤ 70 := by omega
  simp only [c0', decide_true, Bool.true_and]
  refine fd_post hct (by kernel_rfl) rfl (list_post (p := p22) hct (b := b22_0) l.length (fun k (_ : Unit) => s22_0 nl tt (rows l) k) (fun k _ => ((l.drop k).all fun r => decide (r.v.s.length ≤ 100)) = (l.all fun r => decide (r.v.s.length ≤ 100))) _ ?_ ?_ 0 (Nat.zero_le _) () rfl)
  · rintro k _ hk hi
    rw [List.drop_eq_getElem_cons hk, List.all_cons] at hi
    rw [t22_0]
    simp only [ld_br, ld_chk', ld_leaf, fd_br, fd_chk', fd_leaf, decide_true, decide_eq_true_eq, if_true, Int.toNat_natCast, Int.natCast_nonneg, Int.ofNat_lt, Int.ofNat_le, Bool.false_eq_true, if_false, bne_iff_ne, beq_iff_eq, ne_eq, not_true_eq_false, not_false_eq_true, Bool.not_eq_true', decide_eq_false_iff_not, reduceCtorEq, rows_length, pcs_length, er_ok, er_ok', ep_ok, ep_ok', dr_er, dp_ep, isRows_rows, isPcs_pcs, toRows_rows, toPcs_pcs, rows_take, rows_drop, pcs_take, pcs_drop, rows_append, pcs_append, ints_length, isInts_ints, toInts_ints, ei_i, ei_ok, mk_headD, ints_take, ints_drop, ints_append, ints_snoc, ints_snoc', List.take_length, Nat.zero_add, Nat.le_refl, er_a, er_b, er_k, er_n, er_s, er_v, ep_a, ep_b, ep_hk, ep_hn, ep_hs, ep_wk, ep_wn, ep_ws, hk, rows_getD hk, wrap_succ (show k < 9223372036854775807 by omega)]
    by_cases c : (100 : Int) < l[k].v.s.length
    · have : ¬ l[k].v.s.length ≤ 100 := by omega
      simp only [this, decide_false, Bool.false_and] at hi
      exact .inr ⟨x22_0x0, by simp, by rw [k22_0x0, fd_leaf, ← hi], by rw [if_pos c]⟩
    · have : l[k].v.s.length ≤ 100 := by omega
      simp only [this, decide_true, Bool.true_and] at hi
      exact .inl ⟨(), hi, by rw [if_neg c]⟩
  · rintro _ hi
    rw [List.drop_length, List.all_nil] at hi
    rw [t22_0]
    exact ⟨x22_0x1 nl tt (rows l) l.length, by simp, by rw [k22_0x1, fd_leaf, ← hi], by simp only [ld_br, ld_chk', ld_leaf, fd_br, fd_chk', fd_leaf, decide_true, decide_eq_true_eq, if_true, Int.toNat_natCast, Int.natCast_nonneg, Int.ofNat_lt, Int.ofNat_le, Bool.false_eq_true, if_false, bne_iff_ne, beq_iff_eq, ne_eq, not_true_eq_false, not_false_eq_true, Bool.not_eq_true', decide_eq_false_iff_not, reduceCtorEq, rows_length, pcs_length, er_ok, er_ok', ep_ok, ep_ok', dr_er, dp_ep, isRows_rows, isPcs_pcs, toRows_rows, toPcs_pcs, rows_take, rows_drop, pcs_take, pcs_drop, rows_append, pcs_append, ints_length, isInts_ints, toInts_ints, ei_i, ei_ok, mk_headD, ints_take, ints_drop, ints_append, ints_snoc, ints_snoc', List.take_length, Nat.zero_add, Nat.le_refl, er_a, er_b, er_k, er_n, er_s, er_v, ep_a, ep_b, ep_hk, ep_hn, ep_hs, ep_wk, ep_wn, ep_ws, Int.lt_irrefl]⟩
theorem s22_ok : CSpecOk E 22 s22 := by
  intro a h cs vals h' he hc
  unfold s22 at he
  split at he <;> simp only [Option.some.injEq, Prod.mk.injEq, reduceCtorEq] at he
  rename_i nl tt xs
  obtain ⟨rfl, rfl, rfl⟩ := he
  simp only [allT, Bool.and_true, Bool.and_eq_true, decide_eq_true_eq] at hc
  obtain ⟨l, rfl⟩ := rows_ex hc
  rw [toRows_rows]
  exact f22 l nl tt
theorem f63 (dd : Nat) (ih : CSpecOk E 63 (s63 dd)) (s : Bys) (rn : OBo) (rt : Bool) (rs : List Row) (kn : OBo) (kt : Bool) (ks : List Nd) (n d : Int) (hd : depL ks < dd + 1) (h0 : 0 ≤ n) (h1 : n ≤ 1000) (h2 : -1000 ≤ d) (h3 : d ≤ 1000) (hl : lensT (.node s rs ks) = true) :
    call E 63 [.agg [.c (.str s), .c (.sl 5 rn rt (rows rs)), .c (.sl 3 kn kt (encL ks))], V.i n, V.i d] [] = some ([V.i (leftT (.node s rs ks) n d)], []) := by
  have hct : (ctOf [(22, s22), (63, s63 dd)]).ok E := ctOf_cons s22_ok (ctOf_cons ih ctOf_nil)
  refine call_of (E := E) (sh := sh) (ct := ctOf [(22, s22), (63, s63 dd)]) (na := 3) (m := 0) hct rfl rfl rfl rfl rfl rfl ?_
  show (p63 dd).fd ((p63 dd).ft _ _) = _
  rw [lensT] at hl
  simp only [Bool.and_eq_true, decide_eq_true_eq] at hl
  obtain ⟨⟨⟨l1, l2⟩, l4⟩, l3⟩ := hl
  have w0 : ((s.length : Int).tdiv 50) = ((s.length / 50 : Nat) : Int) := rfl
  have w1 : IntKind.wrap .i64 (IntKind.wrap .i64 (n - 1) - IntKind.wrap .i64 ((s.length : Int).tdiv 50)) = n - 1 - ((s.length / 50 : Nat) : Int) := by
    rw [w0, wrap_same (n := n - 1) (by omega) (by omega), wrap_same (n := ((s.length / 50 : Nat) : Int)) (by omega) (by omega), wrap_same (by omega) (by omega)]
  rw [t63, w1]
  simp only [nd_ok, nd_lab, nd_rows, nd_kids, encL_length, isL_enc, decL_enc, wrap_hd, hd_pos, ld_br, ld_chk', ld_leaf, fd_br, fd_chk', fd_leaf, decide_true, decide_eq_true_eq, if_true, Int.toNat_natCast, Int.natCast_nonneg, Int.ofNat_lt, Int.ofNat_le, Bool.false_eq_true, if_false, bne_iff_ne, beq_iff_eq, ne_eq, not_true_eq_false, not_false_eq_true, Bool.not_eq_true', decide_eq_false_iff_not, reduceCtorEq, rows_length, pcs_length, er_ok, er_ok', ep_ok, ep_ok', dr_er, dp_ep, isRows_rows, isPcs_pcs, toRows_rows, toPcs_pcs, rows_take, rows_drop, pcs_take, pcs_drop, rows_append, pcs_append, ints_length, isInts_ints, toInts_ints, ei_i, ei_ok, mk_headD, ints_take, ints_drop, ints_append, ints_snoc, ints_snoc', List.take_length, Nat.zero_add, Nat.le_refl, er_a, er_b, er_k, er_n, er_s, er_v, ep_a, ep_b, ep_hk, ep_hn, ep_hs, ep_wk, ep_wn, ep_ws]
  rw [leftT]
  have hm : n - 1 - ((s.length / 50 : Nat) : Int) ≤ 1000 := by omega
  generalize n - 1 - ((s.length / 50 : Nat) : Int) = m at *
  by_cases c1 : d < 1
  · simp [c1]
  rw [if_neg c1]
  by_cases c2 : m < 1
  · simp [c2]
  rw [if_neg c2]
  by_cases c3 : shortR rs = false
  · simp [c3]
  rw [if_neg c3, if_neg (show ¬ (d < 1 ∨ m < 1 ∨ shortR rs = false) from fun h => h.elim c1 fun h => h.elim c2 c3)]
  have hm0 : 0 ≤ m := by omega
  have w2 : IntKind.wrap .i64 (d - 1) = d - 1 := wrap_same (by omega) (by omega)
  refine fd_post hct (by kernel_rfl) rfl (list_post (p := p63 dd) hct (b := b63_0) ks.length (fun k (m : Int) => s63_0 s rn rt (rows rs) kn kt (encL ks) d m k) (fun k m' => leftL (ks.drop k) m' (d - 1) = leftL ks m (d - 1) ∧ 0 ≤ m' ∧ m' ≤ 1000) _ ?_ ?_ 0 (Nat.zero_le _) m ⟨rfl, hm0, hm⟩)
  · rintro k m' hk ⟨hi, hm1, hm2⟩
    rw [List.drop_eq_getElem_cons hk, leftL_cons] at hi
    have hkid : depL ks[k].kids < dd := by have := depL_kid (List.getElem_mem hk); omega
    rw [t63_0]
    by_cases c : 0 < m'
    · rw [if_pos c] at hi
      have hb := leftT_le ks[k] m' (d - 1) hm1
      refine .inl ⟨leftT ks[k] m' (d - 1), ⟨hi, hb.1, by omega⟩, ?_⟩
      simp only [nd_ok, nd_lab, nd_rows, nd_kids, encL_length, isL_enc, decL_enc, wrap_hd, hd_pos, ld_br, ld_chk', ld_leaf, fd_br, fd_chk', fd_leaf, decide_true, decide_eq_true_eq, if_true, Int.toNat_natCast, Int.natCast_nonneg, Int.ofNat_lt, Int.ofNat_le, Bool.false_eq_true, if_false, bne_iff_ne, beq_iff_eq, ne_eq, not_true_eq_false, not_false_eq_true, Bool.not_eq_true', decide_eq_false_iff_not, reduceCtorEq, rows_length, pcs_length, er_ok, er_ok', ep_ok, ep_ok', dr_er, dp_ep, isRows_rows, isPcs_pcs, toRows_rows, toPcs_pcs, rows_take, rows_drop, pcs_take, pcs_drop, rows_append, pcs_append, ints_length, isInts_ints, toInts_ints, ei_i, ei_ok, mk_headD, ints_take, ints_drop, ints_append, ints_snoc, ints_snoc', List.take_length, Nat.zero_add, Nat.le_refl, er_a, er_b, er_k, er_n, er_s, er_v, ep_a, ep_b, ep_hk, ep_hn, ep_hs, ep_wk, ep_wn, ep_ws, hk, encL_getD hk, nd_node, hkid, w2, hm1, hm2, c, show -1000 ≤ d - 1 by omega, show d - 1 ≤ 1000 by omega, lensL_mem l3 (List.getElem_mem hk), wrap_succ (show k < 9223372036854775807 by omega)]
    · rw [if_neg c] at hi
      exact .inr ⟨x63_0x0 s rn rt (rows rs) kn kt (encL ks) d m' k, by simp, by rw [k63_0x0, fd_leaf, ← hi], by simp only [nd_ok, nd_lab, nd_rows, nd_kids, encL_length, isL_enc, decL_enc, wrap_hd, hd_pos, ld_br, ld_chk', ld_leaf, fd_br, fd_chk', fd_leaf, decide_true, decide_eq_true_eq, if_true, Int.toNat_natCast, Int.natCast_nonneg, Int.ofNat_lt, Int.ofNat_le, Bool.false_eq_true, if_false, bne_iff_ne, beq_iff_eq, ne_eq, not_true_eq_false, not_false_eq_true, Bool.not_eq_true', decide_eq_false_iff_not, reduceCtorEq, rows_length, pcs_length, er_ok, er_ok', ep_ok, ep_ok', dr_er, dp_ep, isRows_rows, isPcs_pcs, toRows_rows, toPcs_pcs, rows_take, rows_drop, pcs_take, pcs_drop, rows_append, pcs_append, ints_length, isInts_ints, toInts_ints, ei_i, ei_ok, mk_headD, ints_take, ints_drop, ints_append, ints_snoc, ints_snoc', List.take_length, Nat.zero_add, Nat.le_refl, er_a, er_b, er_k, er_n, er_s, er_v, ep_a, ep_b, ep_hk, ep_hn, ep_hs, ep_wk, ep_wn, ep_ws, hk, c]⟩
  · rintro m' ⟨hi, hm1, hm2⟩
    rw [List.drop_length, leftL] at hi
    rw [t63_0]
    exact ⟨x63_0x0 s rn rt (rows rs) kn kt (encL ks) d m' ks.length, by simp, by rw [k63_0x0, fd_leaf, ← hi], by simp only [nd_ok, nd_lab, nd_rows, nd_kids, encL_length, isL_enc, decL_enc, wrap_hd, hd_pos, ld_br, ld_chk', ld_leaf, fd_br, fd_chk', fd_leaf, decide_true, decide_eq_true_eq, if_true, Int.toNat_natCast, Int.natCast_nonneg, Int.ofNat_lt, Int.ofNat_le, Bool.false_eq_true, if_false, bne_iff_ne, beq_iff_eq, ne_eq, not_true_eq_false, not_false_eq_true, Bool.not_eq_true', decide_eq_false_iff_not, reduceCtorEq, rows_length, pcs_length, er_ok, er_ok', ep_ok, ep_ok', dr_er, dp_ep, isRows_rows, isPcs_pcs, toRows_rows, toPcs_pcs, rows_take, rows_drop, pcs_take, pcs_drop, rows_append, pcs_append, ints_length, isInts_ints, toInts_ints, ei_i, ei_ok, mk_headD, ints_take, ints_drop, ints_append, ints_snoc, ints_snoc', List.take_length, Nat.zero_add, Nat.le_refl, er_a, er_b, er_k, er_n, er_s, er_v, ep_a, ep_b, ep_hk, ep_hn, ep_hs, ep_wk, ep_wn, ep_ws, Int.lt_irrefl]⟩
theorem s63_ok : ∀ d, CSpecOk E 63 (s63 d)
  | 0 => by
    intro a h cs vals h' he hc
    unfold s63 at he
    split at he <;> simp only [Option.some.injEq, Prod.mk.injEq, reduceCtorEq] at he
    obtain ⟨rfl, rfl, rfl⟩ := he
    simp [allT] at hc
  | d + 1 => by
    intro a h cs vals h' he hc
    unfold s63 at he
    split at he <;> simp only [Option.some.injEq, Prod.mk.injEq, reduceCtorEq] at he
    rename_i s rn rt xs kn kt ys n k
    obtain ⟨rfl, rfl, rfl⟩ := he
    simp only [allT, Bool.and_true, Bool.and_eq_true, decide_eq_true_eq] at hc
    obtain ⟨h1, h2, h3, h4, h5, h6, h7, h8⟩ := hc
    obtain ⟨rs, rfl⟩ := rows_ex h1
    obtain ⟨ks, rfl⟩ := isL_ex h2
    simp only [toRows_rows, decL_enc] at *
    exact f63 d (s63_ok d) s rn rt rs kn kt ks n k h3 h4 h5 h6 h7 h8
theorem f21 (t : Nd) (rn : OBo) (rt : Bool) (kn : OBo) (kt : Bool) (hl : lensT t = true) :
    call E 21 [.agg [.c (.str t.lab), .c (.sl 5 rn rt (rows t.rows)), .c (.sl 3 kn kt (encL t.kids))]] [] = some ([V.b (smallR 400 t)], []) := by
  have hct : (ctOf [(63, s63 (depL t.kids + 1))]).ok E := ctOf_cons (s63_ok _) ctOf_nil
  refine call_of (E := E) (sh := sh) (ct := ctOf [(63, s63 (depL t.kids + 1))]) (na := 1) (m := 0) hct rfl rfl rfl rfl rfl rfl ?_
  show (p21 (depL t.kids + 1)).fd ((p21 (depL t.kids + 1)).ft _ _) = _
  rw [t21]
  simp only [nd_ok, nd_lab, nd_rows, nd_kids, encL_length, isL_enc, decL_enc, wrap_hd, hd_pos, ld_br, ld_chk', ld_leaf, fd_br, fd_chk', fd_leaf, decide_true, decide_eq_true_eq, if_true, Int.toNat_natCast, Int.natCast_nonneg, Int.ofNat_lt, Int.ofNat_le, Bool.false_eq_true, if_false, bne_iff_ne, beq_iff_eq, ne_eq, not_true_eq_false, not_false_eq_true, Bool.not_eq_true', decide_eq_false_iff_not, reduceCtorEq, rows_length, pcs_length, er_ok, er_ok', ep_ok, ep_ok', dr_er, dp_ep, isRows_rows, isPcs_pcs, toRows_rows, toPcs_pcs, rows_take, rows_drop, pcs_take, pcs_drop, rows_append, pcs_append, ints_length, isInts_ints, toInts_ints, ei_i, ei_ok, mk_headD, ints_take, ints_drop, ints_append, ints_snoc, ints_snoc', List.take_length, Nat.zero_add, Nat.le_refl, er_a, er_b, er_k, er_n, er_s, er_v, ep_a, ep_b, ep_hk, ep_hn, ep_hs, ep_wk, ep_wn, ep_ws, nd_node, show depL t.kids < depL t.kids + 1 by omega, hl, smallR]
theorem s21_ok : CSpecOk E 21 s21 := by
  intro a h cs vals h' he hc
  unfold s21 at he
  split at he <;> simp only [Option.some.injEq, Prod.mk.injEq, reduceCtorEq] at he
  rename_i s rn rt xs kn kt ys
  obtain ⟨rfl, rfl, rfl⟩ := he
  simp only [allT, Bool.and_true, Bool.and_eq_true, decide_eq_true_eq] at hc
  obtain ⟨h1, h2, h3⟩ := hc
  obtain ⟨rs, rfl⟩ := rows_ex h1
  obtain ⟨ks, rfl⟩ := isL_ex h2
  simp only [toRows_rows, decL_enc] at *
  exact f21 (.node s rs ks) rn rt kn kt h3
set_option maxRecDepth 100000 in
theorem f23 : call E 23 [] [] = some ([V.b true], []) := call_iff.2 ⟨200, by kernel_rfl⟩
theorem s23_ok : CSpecOk E 23 s23 := by
  intro a h cs vals h' he hc
  unfold s23 at he
  split at he <;> simp only [Option.some.injEq, Prod.mk.injEq, reduceCtorEq] at he
  obtain ⟨rfl, rfl, rfl⟩ := he
  exact f23
end Go.Proofs.YtgaabjmbnomimaaGreatDoor
namespace Go.Proofs.YtgaabjmbnomimaaGreatDoor
open Go Go.Ev
-- cse
variable (dd : Nat)
def goodE (e : Ent) : Bool := isPath e.1 && decide (e.2 ≠ []) && right e.2
def s117 : CSpec := fun a h => match a, h with
  | [.agg [.c (.str p), .c (.sl 5 rn rt xs)]], [] => some ([isRows xs], [V.b (!goodE (p, toRows xs))], [])
  | _, _ => none
noncomputable abbrev p71 : Par := par E sh (ctOf []) 71 1 0
theorem t71 (p : Bys) : p71.ft ([V.c (C.str p)]) ([]) = (Tr.br (decide (1 ≤ (↑p.length : Int))) (Tr.leaf (R.out [V.c (C.bool (decide ((↑p.length : Int) ≤ 24)))] [])) (Tr.leaf (R.out [V.c (C.bool false)] []))) := by kernel_rfl
def s71 : CSpec := fun a h => match a, h with
  | [.c (.str p)], [] => some ([], [V.b (isPath p)], [])
  | _, _ => none
noncomputable abbrev p74 : Par := par E sh (ctOf []) 74 2 0
abbrev s74_0 (nl : OBo) (tt : Bool) (xs : LLC) (p : Bys) (rn : OBo) (rt : Bool) (ys : LLC) (n5 : Nat) (b6 : Bool) (i7 : Int) (ys1 : LLC) : Fr × Hp := ([(0, V.c (C.sl 2 nl tt xs)), (3, V.ptr 0 0 0 0), (5, V.buf 1 0 0 n5), (6, V.c (C.bool b6)), (7, V.c (C.int IntKind.i64 i7))], [O.box [V.c (C.str p), V.c (C.sl 5 rn rt ys)], O.mem 2 0 ys1])
noncomputable abbrev b74_0 : Code := loopAt (codeOf E (74)) 0
abbrev x74_0x0 (nl : OBo) (tt : Bool) (xs : LLC) (p : Bys) (rn : OBo) (rt : Bool) (ys : LLC) (n5 : Nat) (b6 : Bool) (i7 : Int) (ys1 : LLC) : Ex × Fr × Hp := (Ex.exit 0, [(0, V.c (C.sl 2 nl tt xs)), (3, V.ptr 0 0 0 0), (5, V.buf 1 0 0 n5), (6, V.c (C.bool b6)), (7, V.c (C.int IntKind.i64 i7)), (15, V.c (C.bool false))], [O.box [V.c (C.str p), V.c (C.sl 5 rn rt ys)], O.mem 2 0 ys1])
theorem t74_0 (nl : OBo) (tt : Bool) (xs : LLC) (p : Bys) (rn : OBo) (rt : Bool) (ys : LLC) (n5 : Nat) (b6 : Bool) (i7 : Int) (ys1 : LLC) : p74.lts b74_0 (s74_0 nl tt xs p rn rt ys n5 b6 i7 ys1) = (Tr.br (decide (i7 < (↑xs.length : Int))) (Tr.br (!b6) (Tr.chk (decide (0 ≤ i7)) (Tr.chk true (Tr.chk (decide (i7.toNat < xs.length)) (Tr.chk (shOk [Sk.str, Sk.sl 5] (xs.getD i7.toNat [])) (Tr.br (!Op.bytesLess ((xs.getD i7.toNat []).headD C.pnil).st p) (Tr.chk true (Tr.chk true (Tr.chk (decide (n5 + 1 < 4294967296)) (Tr.chk true (Tr.chk (decide (0 ≤ i7)) (Tr.chk true (Tr.chk (decide (i7.toNat < xs.length)) (Tr.chk (shOk [Sk.str, Sk.sl 5] (xs.getD i7.toNat [])) (Tr.br (!((xs.getD i7.toNat []).headD C.pnil).st == p) (Tr.chk (decide (0 ≤ i7)) (Tr.chk true (Tr.chk (decide (i7.toNat < xs.length)) (Tr.chk (shOk [Sk.str, Sk.sl 5] (xs.getD i7.toNat [])) (Tr.chk true (Tr.chk true (Tr.chk (decide (n5 + 1 + 1 < 4294967296)) (Tr.chk true (Tr.leaf (R.s (s74_0 nl tt xs p rn rt ys (n5 + 1 + 1) true (IntKind.i64.wrap (i7 + 1)) (List.take (n5 + 1) (List.take n5 ys1 ++ [[C.str p, C.sl 5 rn rt ys]]) ++ [[Sk.str.mk ((xs.getD i7.toNat []).headD C.pnil), (Sk.sl 5).mk ((xs.getD i7.toNat []).tail.headD C.pnil)]])))))))))))) (Tr.leaf (R.s (s74_0 nl tt xs p rn rt ys (n5 + 1) true (IntKind.i64.wrap (i7 + 1)) (List.take n5 ys1 ++ [[C.str p, C.sl 5 rn rt ys]]))))))))))))) (Tr.chk (decide (0 ≤ i7)) (Tr.chk true (Tr.chk (decide (i7.toNat < xs.length)) (Tr.chk (shOk [Sk.str, Sk.sl 5] (xs.getD i7.toNat [])) (Tr.br (!((xs.getD i7.toNat []).headD C.pnil).st == p) (Tr.chk (decide (0 ≤ i7)) (Tr.chk true (Tr.chk (decide (i7.toNat < xs.length)) (Tr.chk (shOk [Sk.str, Sk.sl 5] (xs.getD i7.toNat [])) (Tr.chk true (Tr.chk true (Tr.chk (decide (n5 + 1 < 4294967296)) (Tr.chk true (Tr.leaf (R.s (s74_0 nl tt xs p rn rt ys (n5 + 1) b6 (IntKind.i64.wrap (i7 + 1)) (List.take n5 ys1 ++ [[Sk.str.mk ((xs.getD i7.toNat []).headD C.pnil), (Sk.sl 5).mk ((xs.getD i7.toNat []).tail.headD C.pnil)]])))))))))))) (Tr.leaf (R.s (s74_0 nl tt xs p rn rt ys n5 b6 (IntKind.i64.wrap (i7 + 1)) ys1))))))))))))) (Tr.chk (decide (0 ≤ i7)) (Tr.chk true (Tr.chk (decide (i7.toNat < xs.length)) (Tr.chk (shOk [Sk.str, Sk.sl 5] (xs.getD i7.toNat [])) (Tr.br (!((xs.getD i7.toNat []).headD C.pnil).st == p) (Tr.chk (decide (0 ≤ i7)) (Tr.chk true (Tr.chk (decide (i7.toNat < xs.length)) (Tr.chk (shOk [Sk.str, Sk.sl 5] (xs.getD i7.toNat [])) (Tr.chk true (Tr.chk true (Tr.chk (decide (n5 + 1 < 4294967296)) (Tr.chk true (Tr.leaf (R.s (s74_0 nl tt xs p rn rt ys (n5 + 1) b6 (IntKind.i64.wrap (i7 + 1)) (List.take n5 ys1 ++ [[Sk.str.mk ((xs.getD i7.toNat []).headD C.pnil), (Sk.sl 5).mk ((xs.getD i7.toNat []).tail.headD C.pnil)]])))))))))))) (Tr.leaf (R.s (s74_0 nl tt xs p rn rt ys n5 b6 (IntKind.i64.wrap (i7 + 1)) ys1))))))))) (Tr.leaf (R.x (x74_0x0 nl tt xs p rn rt ys n5 b6 i7 ys1)))) := by kernel_rfl
theorem k74_0x0 (nl : OBo) (tt : Bool) (xs : LLC) (p : Bys) (rn : OBo) (rt : Bool) (ys : LLC) (n5 : Nat) (b6 : Bool) (i7 : Int) (ys1 : LLC) : p74.fkx 0 (x74_0x0 nl tt xs p rn rt ys n5 b6 i7 ys1) = (Tr.br (!b6) (Tr.chk true (Tr.chk true (Tr.chk (decide (n5 + 1 < 4294967296)) (Tr.chk true (Tr.leaf (R.out [V.c (C.sl 2 none false (List.take (n5 + 1) (List.take n5 ys1 ++ [[C.str p, C.sl 5 rn rt ys]])))] [])))))) (Tr.leaf (R.out [V.c (C.sl 2 none false (List.take n5 ys1))] []))) := by kernel_rfl
theorem t74 (nl : OBo) (tt : Bool) (xs : LLC) (p : Bys) (rn : OBo) (rt : Bool) (ys : LLC) : p74.ft ([V.c (C.sl 2 nl tt xs), V.agg [V.c (C.str p), V.c (C.sl 5 rn rt ys)]]) ([]) = (Tr.ls 0 (s74_0 nl tt xs p rn rt ys (0) ((↑ys.length : Int) == 0) (0) ([]))) := by kernel_rfl
def insQ (put : Bool) (e : Ent) : List Ent → List Ent
  | [] => cond put [] [e]
  | x :: r => cond (!put && !Op.bytesLess x.1 e.1) [e] [] ++ (cond (x.1 == e.1) [] [x] ++ insQ (put || !Op.bytesLess x.1 e.1) e r)
def s74 : CSpec := fun a h => match a, h with
  | [.c (.sl 2 nl tt xs), .agg [.c (.str p), .c (.sl 5 none false ys)]], [] => some ([isEs xs, isRows ys, decide (xs.length < 4294967290)], [.c (.sl 2 none false (ents (insQ (decide ((toRows ys).length = 0)) (p, toRows ys) (toEs xs))))], [])
  | _, _ => none
end Go.Proofs.YtgaabjmbnomimaaGreatDoor
namespace Go.Proofs.YtgaabjmbnomimaaGreatDoor
open Go Go.Ev
-- cse
end Go.Proofs.YtgaabjmbnomimaaGreatDoor
namespace Go.Proofs.YtgaabjmbnomimaaGreatDoor
open Go Go.Ev
theorem insQ_put : ∀ {x : List Ent} {e : Ent}, (∀ a ∈ x, Op.bytesLess e.1 a.1 = true) → insQ true e x = x
  | [], _, _ => rfl
  | a :: r, e, h => by
    have h1 := h a (by simp)
    have hne : (a.1 == e.1) = false := by rw [beq_eq_false_iff_ne]; exact fun k => bl_ne h1 k.symm
    rw [insQ, hne]
    simp only [Bool.not_true, Bool.false_and, cond_false, List.nil_append, Bool.true_or, List.singleton_append]
    rw [insQ_put fun b hb => h b (by simp [hb])]
theorem insQ_insE {e : Ent} (hr : e.2 ≠ []) : ∀ {x : List Ent}, Rise x → insQ false e x = insE x e.1 e.2
  | [], _ => by rw [insE, if_neg hr]; rfl
  | a :: r, h => by
    rw [Rise, List.pairwise_cons] at h
    rw [insQ, insE]
    cases c : Op.bytesLess a.1 e.1 with
    | true =>
      have hne : (a.1 == e.1) = false := by rw [beq_eq_false_iff_ne]; exact bl_ne c
      rw [hne, if_pos rfl]
      simp only [Bool.not_true, Bool.and_false, cond_false, List.nil_append, Bool.or_false, List.singleton_append]
      rw [insQ_insE hr h.2]
    | false =>
      rw [if_neg (by simp)]
      have hgt : ∀ b ∈ r, Op.bytesLess e.1 b.1 = true := fun b hb => by
        cases d : Op.bytesLess e.1 a.1 with
        | true => exact bl_trans d (h.1 b hb)
        | false => rw [← bl_total _ _ c d]; exact h.1 b hb
      simp only [Bool.not_false, Bool.and_self, cond_true, Bool.false_or]
      rw [insQ_put hgt]
      by_cases d : a.1 = e.1
      · rw [if_pos d, if_neg hr, beq_iff_eq.2 d]; rfl
      · rw [if_neg d, if_neg hr, beq_eq_false_iff_ne.2 d]; rfl
end Go.Proofs.YtgaabjmbnomimaaGreatDoor
namespace Go.Proofs.YtgaabjmbnomimaaGreatDoor
open Go Go.Ev
theorem f71 (p : Bys) : call E 71 [.c (.str p)] [] = some ([V.b (isPath p)], []) := by
  refine call_of (E := E) (sh := sh) (ct := ctOf []) (na := 1) (m := 0) ctOf_nil rfl rfl rfl rfl rfl rfl ?_
  rw [t71]
  simp only [ld_br, ld_chk', ld_leaf, fd_br, fd_chk', fd_leaf, decide_true, decide_eq_true_eq, if_true, Int.toNat_natCast, Int.natCast_nonneg, Int.ofNat_lt, Int.ofNat_le, Bool.false_eq_true, if_false, bne_iff_ne, beq_iff_eq, ne_eq, not_true_eq_false, not_false_eq_true, Bool.not_eq_true', decide_eq_false_iff_not, reduceCtorEq, rows_length, pcs_length, er_ok, er_ok', ep_ok, ep_ok', dr_er, dp_ep, isRows_rows, isPcs_pcs, toRows_rows, toPcs_pcs, rows_take, rows_drop, pcs_take, pcs_drop, rows_append, pcs_append, ints_length, isInts_ints, toInts_ints, ei_i, ei_ok, mk_headD, ints_take, ints_drop, ints_append, ints_snoc, ints_snoc', List.take_length, Nat.zero_add, Nat.le_refl, er_a, er_b, er_k, er_n, er_s, er_v, ep_a, ep_b, ep_hk, ep_hn, ep_hs, ep_wk, ep_wn, ep_ws]
  unfold isPath
  by_cases h : p = []
  · subst h; rfl
  · have h1 := List.length_pos_iff.2 h
    have h2 : (1 : Int) ≤ (p.length : Nat) := by omega
    have h3 : ((p.length : Int) ≤ 24) ↔ (p.length ≤ 24) := by omega
    simp [h, h2, h3]
theorem s71_ok : CSpecOk E 71 s71 := by
  intro a h cs vals h' he hc
  unfold s71 at he
  split at he <;> simp only [Option.some.injEq, Prod.mk.injEq, reduceCtorEq] at he
  obtain ⟨rfl, rfl, rfl⟩ := he
  exact f71 _
end Go.Proofs.YtgaabjmbnomimaaGreatDoor
namespace Go.Proofs.YtgaabjmbnomimaaGreatDoor
open Go Go.Ev
theorem ee_mk2 (e : Ent) (d d' : C) : [Sk.str.mk ((ee e).headD d), (Sk.sl 5).mk ((ee e).tail.headD d')] = ee e := rfl
theorem ents_snoc1 (l : List Ent) (e : Ent) : ents l ++ [ee e] = ents (l ++ [e]) := by simp [ents]
theorem ents_take' {l : List Ent} {n : Nat} (h : n = l.length) : (ents l).take n = ents l := ents_take l n h
theorem insQ_drop {x : List Ent} {k : Nat} (h : k < x.length) (put : Bool) (e : Ent) : insQ put e (x.drop k) = cond (!put && !Op.bytesLess x[k].1 e.1) [e] [] ++ (cond (x[k].1 == e.1) [] [x[k]] ++ insQ (put || !Op.bytesLess x[k].1 e.1) e (x.drop (k + 1))) := by
  rw [List.drop_eq_getElem_cons h, insQ]
theorem insQ_len : ∀ (put : Bool) (e : Ent) (x : List Ent), (insQ put e x).length ≤ x.length + (cond put 0 1)
  | put, e, [] => by cases put <;> simp [insQ]
  | put, e, a :: r => by
    rw [insQ]
    have h1 := insQ_len (put || !Op.bytesLess a.1 e.1) e r
    cases put <;> cases hb : Op.bytesLess a.1 e.1 <;> rw [hb] at h1 <;> cases (a.1 == e.1) <;> simp at h1 ⊢ <;> omega
theorem f74 (nl : OBo) (tt : Bool) (x : List Ent) (p : Bys) (rs : List Row) (hx : x.length < 4294967290) : call E 74 [.c (.sl 2 nl tt (ents x)), .agg [.c (.str p), .c (.sl 5 none false (rows rs))]] [] = some ([.c (.sl 2 none false (ents (insQ (decide (rs.length = 0)) (p, rs) x)))], []) := by
  refine call_of (E := E) (sh := sh) (ct := ctOf []) (na := 2) (m := 0) ctOf_nil rfl rfl rfl rfl rfl rfl ?_
  rw [t74, rows_length]
  have hz : ((rs.length : Int) == 0) = decide (rs.length = 0) := by
    by_cases h : rs.length = 0
    · simp [h]
    · have : ((rs.length : Int)) ≠ 0 := by omega
      simp [h, this]
  rw [hz]
  generalize decide (rs.length = 0) = put0
  have hee : [C.str p, C.sl 5 none false (rows rs)] = ee (p, rs) := rfl
  have hlen := insQ_len put0 (p, rs) x
  have hc1 : (cond put0 0 1) ≤ 1 := by cases put0 <;> simp
  have hbnd : ∀ (acc : List Ent) put k, acc ++ insQ put (p, rs) (x.drop k) = insQ put0 (p, rs) x → acc.length + (insQ put (p, rs) (x.drop k)).length ≤ x.length + 1 := fun acc put k h => by
    have := congrArg List.length h
    rw [List.length_append] at this; omega
  refine fd_post (p := p74) ctOf_nil (by kernel_rfl) rfl (list_post (p := p74) ctOf_nil (b := b74_0) x.length (fun k (s : List Ent × Bool) => s74_0 nl tt (ents x) p none false (rows rs) s.1.length s.2 k (ents s.1)) (fun k s => s.1 ++ insQ s.2 (p, rs) (x.drop k) = insQ put0 (p, rs) x) _ ?_ ?_ 0 (Nat.zero_le _) ([], put0) rfl)
  · rintro k ⟨acc, put⟩ hk h
    dsimp only at h
    have hb := hbnd acc put k h
    rw [insQ_drop hk] at h hb
    left
    refine ⟨(acc ++ (cond (!put && !Op.bytesLess x[k].1 p) [(p, rs)] [] ++ cond (x[k].1 == p) [] [x[k]]), put || !Op.bytesLess x[k].1 p), by rw [← h]; simp only [List.append_assoc], ?_⟩
    rw [t74_0]
    dsimp only at hb
    cases put <;> cases c1 : Op.bytesLess x[k].1 p <;> cases c2 : (x[k].1 == p) <;> simp only [c1, c2, Bool.not_true, Bool.not_false, Bool.and_true, Bool.true_and, Bool.and_false, Bool.false_and, cond_true, cond_false, List.length_append, List.length_cons, List.length_nil] at hb <;>
      simp only [ld_br, ld_chk', ld_leaf, fd_br, fd_chk', fd_leaf, decide_true, decide_eq_true_eq, if_true, Int.toNat_natCast, Int.natCast_nonneg, Int.ofNat_lt, Int.ofNat_le, Bool.false_eq_true, if_false, bne_iff_ne, beq_iff_eq, ne_eq, not_true_eq_false, not_false_eq_true, Bool.not_eq_true', decide_eq_false_iff_not, reduceCtorEq, rows_length, pcs_length, er_ok, er_ok', ep_ok, ep_ok', dr_er, dp_ep, isRows_rows, isPcs_pcs, toRows_rows, toPcs_pcs, rows_take, rows_drop, pcs_take, pcs_drop, rows_append, pcs_append, ints_length, isInts_ints, toInts_ints, ei_i, ei_ok, mk_headD, ints_take, ints_drop, ints_append, ints_snoc, ints_snoc', List.take_length, Nat.zero_add, Nat.le_refl, er_a, er_b, er_k, er_n, er_s, er_v, ep_a, ep_b, ep_hk, ep_hn, ep_hs, ep_wk, ep_wn, ep_ws, hee, ents_length, hk, ents_getD hk, ee_ok, ee_p, ee_mk2, c1, c2, Bool.not_true, Bool.not_false, Bool.and_true, Bool.true_and, Bool.and_false, Bool.false_and, Bool.or_true, Bool.true_or, Bool.or_false, Bool.false_or, cond_true, cond_false, Bool.true_eq_false, List.append_nil, List.nil_append,
        ents_take' rfl, ents_snoc1, ents_take' (show acc.length + 1 = (acc ++ [((p, rs) : Ent)]).length by simp), List.length_append, List.length_cons, List.length_nil, List.singleton_append, List.append_assoc, show acc.length + 1 < 4294967296 by omega, show acc.length + 1 + 1 < 4294967296 by omega, wrap_succ (show k < 9223372036854775807 by omega)] <;> rfl
  · rintro ⟨acc, put⟩ h
    dsimp only at h
    have hb := hbnd acc put x.length h
    rw [List.drop_length, insQ] at h
    refine ⟨x74_0x0 nl tt (ents x) p none false (rows rs) acc.length put x.length (ents acc), by simp, ?_, ?_⟩
    · rw [k74_0x0, ← h]
      cases put <;> simp only [ld_br, ld_chk', ld_leaf, fd_br, fd_chk', fd_leaf, decide_true, decide_eq_true_eq, if_true, Int.toNat_natCast, Int.natCast_nonneg, Int.ofNat_lt, Int.ofNat_le, Bool.false_eq_true, if_false, bne_iff_ne, beq_iff_eq, ne_eq, not_true_eq_false, not_false_eq_true, Bool.not_eq_true', decide_eq_false_iff_not, reduceCtorEq, rows_length, pcs_length, er_ok, er_ok', ep_ok, ep_ok', dr_er, dp_ep, isRows_rows, isPcs_pcs, toRows_rows, toPcs_pcs, rows_take, rows_drop, pcs_take, pcs_drop, rows_append, pcs_append, ints_length, isInts_ints, toInts_ints, ei_i, ei_ok, mk_headD, ints_take, ints_drop, ints_append, ints_snoc, ints_snoc', List.take_length, Nat.zero_add, Nat.le_refl, er_a, er_b, er_k, er_n, er_s, er_v, ep_a, ep_b, ep_hk, ep_hn, ep_hs, ep_wk, ep_wn, ep_ws, hee, Bool.not_true, Bool.not_false, cond_true, cond_false, List.append_nil, ents_take' rfl, ents_snoc1, ents_take' (show acc.length + 1 = (acc ++ [((p, rs) : Ent)]).length by simp), show acc.length + 1 < 4294967296 by omega]
    · rw [t74_0]; simp only [ld_br, ld_chk', ld_leaf, fd_br, fd_chk', fd_leaf, decide_true, decide_eq_true_eq, if_true, Int.toNat_natCast, Int.natCast_nonneg, Int.ofNat_lt, Int.ofNat_le, Bool.false_eq_true, if_false, bne_iff_ne, beq_iff_eq, ne_eq, not_true_eq_false, not_false_eq_true, Bool.not_eq_true', decide_eq_false_iff_not, reduceCtorEq, rows_length, pcs_length, er_ok, er_ok', ep_ok, ep_ok', dr_er, dp_ep, isRows_rows, isPcs_pcs, toRows_rows, toPcs_pcs, rows_take, rows_drop, pcs_take, pcs_drop, rows_append, pcs_append, ints_length, isInts_ints, toInts_ints, ei_i, ei_ok, mk_headD, ints_take, ints_drop, ints_append, ints_snoc, ints_snoc', List.take_length, Nat.zero_add, Nat.le_refl, er_a, er_b, er_k, er_n, er_s, er_v, ep_a, ep_b, ep_hk, ep_hn, ep_hs, ep_wk, ep_wn, ep_ws, ents_length, Int.lt_irrefl]
theorem s74_ok : CSpecOk E 74 s74 := by
  intro a h cs vals h' he hc
  unfold s74 at he
  split at he <;> simp only [Option.some.injEq, Prod.mk.injEq, reduceCtorEq] at he
  rename_i nl tt xs p ys
  obtain ⟨rfl, rfl, rfl⟩ := he
  simp only [allT, Bool.and_true, Bool.and_eq_true, decide_eq_true_eq] at hc
  obtain ⟨h1, h2, h3⟩ := hc
  obtain ⟨x, rfl⟩ := ents_ex h1
  obtain ⟨rs, rfl⟩ := rows_ex h2
  rw [ents_length] at h3
  rw [toEs_ents, toRows_rows]
  exact f74 nl tt x p rs h3
theorem f29 (l : List Ent) (nl : OBo) (tt : Bool) (nl2 : OBo) (t2 : Bool) (hl : l.length < 4294967296) (hr : ∀ e ∈ l, e.2.length ≤ 9223372036854775807) : call E 29 [.c (.sl 2 nl tt (ents l)), .c (.sl 2 nl2 t2 (ents l))] [] = some ([V.b true], []) := by
  have hct : (ctOf [(26, s26)]).ok E := ctOf_cons s26_ok ctOf_nil
  refine call_of (E := E) (sh := sh) (ct := ctOf [(26, s26)]) (na := 2) (m := 0) hct rfl rfl rfl rfl rfl rfl ?_
  rw [t29, fd_br, bne_self_eq_false, if_neg (by simp)]
  refine fd_post hct (by kernel_rfl) rfl (list_post (p := p29) hct (b := b29_0) l.length (fun k (_ : Unit) => s29_0 nl tt (ents l) nl2 t2 (ents l) k) (fun _ _ => True) _ ?_ ?_ 0 (Nat.zero_le _) () trivial)
  · intro k _ hk _
    have := hr _ (List.getElem_mem hk)
    refine .inl ⟨(), trivial, ?_⟩
    rw [t29_0]
    simp only [ld_br, ld_chk', ld_leaf, fd_br, fd_chk', fd_leaf, decide_true, decide_eq_true_eq, if_true, Int.toNat_natCast, Int.natCast_nonneg, Int.ofNat_lt, Int.ofNat_le, Bool.false_eq_true, if_false, bne_iff_ne, beq_iff_eq, ne_eq, not_true_eq_false, not_false_eq_true, Bool.not_eq_true', decide_eq_false_iff_not, reduceCtorEq, rows_length, pcs_length, er_ok, er_ok', ep_ok, ep_ok', dr_er, dp_ep, isRows_rows, isPcs_pcs, toRows_rows, toPcs_pcs, rows_take, rows_drop, pcs_take, pcs_drop, rows_append, pcs_append, ints_length, isInts_ints, toInts_ints, ei_i, ei_ok, mk_headD, ints_take, ints_drop, ints_append, ints_snoc, ints_snoc', List.take_length, Nat.zero_add, Nat.le_refl, er_a, er_b, er_k, er_n, er_s, er_v, ep_a, ep_b, ep_hk, ep_hn, ep_hs, ep_wk, ep_wn, ep_ws, ents_length, hk, ents_getD hk, ee_ok, ee_p, ee_r, this, beq_self_eq_true, Bool.not_true, wrap_succ (show k < 9223372036854775807 by omega)]
  · intro _ _
    refine ⟨x29_0x1 nl tt (ents l) nl2 t2 (ents l) l.length, by simp, by rw [k29_0x1, fd_leaf], ?_⟩
    rw [t29_0]; simp only [ld_br, ld_chk', ld_leaf, fd_br, fd_chk', fd_leaf, decide_true, decide_eq_true_eq, if_true, Int.toNat_natCast, Int.natCast_nonneg, Int.ofNat_lt, Int.ofNat_le, Bool.false_eq_true, if_false, bne_iff_ne, beq_iff_eq, ne_eq, not_true_eq_false, not_false_eq_true, Bool.not_eq_true', decide_eq_false_iff_not, reduceCtorEq, rows_length, pcs_length, er_ok, er_ok', ep_ok, ep_ok', dr_er, dp_ep, isRows_rows, isPcs_pcs, toRows_rows, toPcs_pcs, rows_take, rows_drop, pcs_take, pcs_drop, rows_append, pcs_append, ints_length, isInts_ints, toInts_ints, ei_i, ei_ok, mk_headD, ints_take, ints_drop, ints_append, ints_snoc, ints_snoc', List.take_length, Nat.zero_add, Nat.le_refl, er_a, er_b, er_k, er_n, er_s, er_v, ep_a, ep_b, ep_hk, ep_hn, ep_hs, ep_wk, ep_wn, ep_ws, ents_length, Int.lt_irrefl]
end Go.Proofs.YtgaabjmbnomimaaGreatDoor
namespace Go.Proofs.YtgaabjmbnomimaaGreatDoor
open Go Go.Ev
-- cse
variable (dd : Nat)
end Go.Proofs.YtgaabjmbnomimaaGreatDoor
namespace Go.Proofs.YtgaabjmbnomimaaGreatDoor
open Go Go.Ev
theorem root_ent {t : Nd} (h : okR t = true) : entT t = entP t := by
  obtain ⟨h1, h2, _⟩ := okR_iff.1 h
  rw [entP_R h, entT_eq, h1, h2]
  simp [entR]
theorem root_len (t : Nd) : (entT t).length ≤ (entL t.kids).length + 1 := by
  rw [entT_eq]
  split <;> simp
section
variable (a b c : Nd) (all : List (List UInt8))
end
theorem node_eta {t : Nd} (h : okR t = true) : Nd.node [] [] t.kids = t := by
  obtain ⟨h1, h2, _⟩ := okR_iff.1 h
  conv => rhs; rw [← Nd.eta t, h1, h2]
end Go.Proofs.YtgaabjmbnomimaaGreatDoor
namespace Go.Proofs.YtgaabjmbnomimaaGreatDoor
open Go Go.Ev
-- cse
variable (dd : Nat)
noncomputable abbrev p25 : Par := par E sh (ctOf [(70, s70), (71, s71), (72, s72), (73, s73 dd), (74, s74), (75, s75)]) 25 3 0
theorem t25 (s : Bys) (xs : LLC) (ys : LLC) (p : Bys) (zs : LLC) : (p25 dd).ft ([V.agg [V.c (C.str s), V.c (C.sl 5 none false xs), V.c (C.sl 3 none false ys)], V.c (C.str p), V.c (C.sl 5 none false zs)]) ([]) = (Tr.chk (isRows xs) (Tr.chk (isL ys) (Tr.br (!okR (Nd.node s (toRows xs) (decL ys))) (Tr.leaf (R.out [V.agg [V.c (C.str []), V.c (C.sl 5 none false []), V.c (C.sl 3 none false [])], V.c (C.int IntKind.i64 2)] [])) (Tr.br (!isPath p) (Tr.leaf (R.out [V.agg [V.c (C.str []), V.c (C.sl 5 none false []), V.c (C.sl 3 none false [])], V.c (C.int IntKind.i64 2)] [])) (Tr.chk (isRows zs) (Tr.br (!right (toRows zs)) (Tr.leaf (R.out [V.agg [V.c (C.str []), V.c (C.sl 5 none false []), V.c (C.sl 3 none false [])], V.c (C.int IntKind.i64 2)] [])) (Tr.chk (isRows xs) (Tr.chk (isL ys) (Tr.chk (decide ((entT (Nd.node s (toRows xs) (decL ys))).length < 4294967290)) (Tr.chk (isEs (ents (if okR (Nd.node s (toRows xs) (decL ys)) = true then entT (Nd.node s (toRows xs) (decL ys)) else []))) (Tr.chk (isRows zs) (Tr.chk (decide ((ents (if okR (Nd.node s (toRows xs) (decL ys)) = true then entT (Nd.node s (toRows xs) (decL ys)) else [])).length < 4294967290)) (Tr.chk (isEs (ents (insQ (decide ((toRows zs).length = 0)) (p, toRows zs) (toEs (ents (if okR (Nd.node s (toRows xs) (decL ys)) = true then entT (Nd.node s (toRows xs) (decL ys)) else [])))))) (Tr.chk (decide ((ents (insQ (decide ((toRows zs).length = 0)) (p, toRows zs) (toEs (ents (if okR (Nd.node s (toRows xs) (decL ys)) = true then entT (Nd.node s (toRows xs) (decL ys)) else []))))).length < 4294967295)) (Tr.chk (hasK dd (toEs (ents (insQ (decide ((toRows zs).length = 0)) (p, toRows zs) (toEs (ents (if okR (Nd.node s (toRows xs) (decL ys)) = true then entT (Nd.node s (toRows xs) (decL ys)) else [])))))) 0) (Tr.leaf (R.out [V.agg [V.c (C.str []), V.c (C.sl 5 none false []), V.c (C.sl 3 none false (encL (Nd.node [] [] (theK dd (toEs (ents (insQ (decide ((toRows zs).length = 0)) (p, toRows zs) (toEs (ents (if okR (Nd.node s (toRows xs) (decL ys)) = true then entT (Nd.node s (toRows xs) (decL ys)) else [])))))) 0)).kids))], V.c (C.int IntKind.i64 0)] []))))))))))))))))) := by kernel_rfl
noncomputable abbrev p31 : Par := par E sh (ctOf [(75, s75), (82, s82)]) 31 2 0
abbrev s31_0 (p : Bys) (nl5 : OBo) (t5 : Bool) (xs5 : LLC) (n6 : Nat) (i7 : Int) (ys0 : LLC) : Fr × Hp := ([(1, V.c (C.str p)), (5, V.c (C.sl 2 nl5 t5 xs5)), (6, V.buf 0 0 0 n6), (7, V.c (C.int IntKind.i64 i7))], [O.mem 2 0 ys0])
noncomputable abbrev b31_0 : Code := loopAt (codeOf E (31)) 0
abbrev x31_0x0 (p : Bys) (nl5 : OBo) (t5 : Bool) (xs5 : LLC) (n6 : Nat) (i7 : Int) (ys0 : LLC) : Ex × Fr × Hp := (Ex.exit 0, [(1, V.c (C.str p)), (5, V.c (C.sl 2 nl5 t5 xs5)), (6, V.buf 0 0 0 n6), (7, V.c (C.int IntKind.i64 i7)), (13, V.c (C.bool false))], [O.mem 2 0 ys0])
theorem t31_0 (p : Bys) (nl5 : OBo) (t5 : Bool) (xs5 : LLC) (n6 : Nat) (i7 : Int) (ys0 : LLC) : p31.lts b31_0 (s31_0 p nl5 t5 xs5 n6 i7 ys0) = (Tr.br (decide (i7 < (↑xs5.length : Int))) (Tr.chk (decide (0 ≤ i7)) (Tr.chk true (Tr.chk (decide (i7.toNat < xs5.length)) (Tr.chk (shOk [Sk.str, Sk.sl 5] (xs5.getD i7.toNat [])) (Tr.br (begins ((xs5.getD i7.toNat []).headD C.pnil).st p) (Tr.chk (decide (0 ≤ i7)) (Tr.chk true (Tr.chk (decide (i7.toNat < xs5.length)) (Tr.chk (shOk [Sk.str, Sk.sl 5] (xs5.getD i7.toNat [])) (Tr.chk true (Tr.chk true (Tr.chk (decide (n6 + 1 < 4294967296)) (Tr.chk true (Tr.leaf (R.s (s31_0 p nl5 t5 xs5 (n6 + 1) (IntKind.i64.wrap (i7 + 1)) (List.take n6 ys0 ++ [[Sk.str.mk ((xs5.getD i7.toNat []).headD C.pnil), (Sk.sl 5).mk ((xs5.getD i7.toNat []).tail.headD C.pnil)]])))))))))))) (Tr.leaf (R.s (s31_0 p nl5 t5 xs5 n6 (IntKind.i64.wrap (i7 + 1)) ys0)))))))) (Tr.leaf (R.x (x31_0x0 p nl5 t5 xs5 n6 i7 ys0)))) := by kernel_rfl
theorem k31_0x0 (p : Bys) (nl5 : OBo) (t5 : Bool) (xs5 : LLC) (n6 : Nat) (i7 : Int) (ys0 : LLC) : p31.fkx 0 (x31_0x0 p nl5 t5 xs5 n6 i7 ys0) = (Tr.leaf (R.out [V.c (C.sl 2 none false (List.take n6 ys0))] [])) := by kernel_rfl
theorem t31 (s : Bys) (xs : LLC) (ys : LLC) (p : Bys) : p31.ft ([V.agg [V.c (C.str s), V.c (C.sl 5 none false xs), V.c (C.sl 3 none false ys)], V.c (C.str p)]) ([]) = (Tr.chk (isRows xs) (Tr.chk (isL ys) (Tr.chk (decide ((entT (Nd.node s (toRows xs) (decL ys))).length < 4294967290)) (Tr.ls 0 (s31_0 p (none) false (ents (if okR (Nd.node s (toRows xs) (decL ys)) = true then entT (Nd.node s (toRows xs) (decL ys)) else [])) (0) (0) ([])))))) := by kernel_rfl
noncomputable abbrev p33 : Par := par E sh (ctOf [(75, s75)]) 33 3 0
abbrev s33_0 (p : Bys) (q : Bys) (nl7 : OBo) (t7 : Bool) (xs7 : LLC) (n8 : Nat) (i9 : Int) (ys0 : LLC) : Fr × Hp := ([(1, V.c (C.str p)), (2, V.c (C.str q)), (7, V.c (C.sl 2 nl7 t7 xs7)), (8, V.buf 0 0 0 n8), (9, V.c (C.int IntKind.i64 i9))], [O.mem 2 0 ys0])
noncomputable abbrev b33_0 : Code := loopAt (codeOf E (33)) 0
abbrev x33_0x0 (p : Bys) (q : Bys) (nl7 : OBo) (t7 : Bool) (xs7 : LLC) (n8 : Nat) (i9 : Int) (ys0 : LLC) : Ex × Fr × Hp := (Ex.exit 0, [(1, V.c (C.str p)), (2, V.c (C.str q)), (7, V.c (C.sl 2 nl7 t7 xs7)), (8, V.buf 0 0 0 n8), (9, V.c (C.int IntKind.i64 i9)), (15, V.c (C.bool false))], [O.mem 2 0 ys0])
theorem t33_0 (p : Bys) (q : Bys) (nl7 : OBo) (t7 : Bool) (xs7 : LLC) (n8 : Nat) (i9 : Int) (ys0 : LLC) : p33.lts b33_0 (s33_0 p q nl7 t7 xs7 n8 i9 ys0) = (Tr.br (decide (i9 < (↑xs7.length : Int))) (Tr.chk (decide (0 ≤ i9)) (Tr.chk true (Tr.chk (decide (i9.toNat < xs7.length)) (Tr.chk (shOk [Sk.str, Sk.sl 5] (xs7.getD i9.toNat [])) (Tr.br (!Op.bytesLess ((xs7.getD i9.toNat []).headD C.pnil).st p) (Tr.br (q == []) (Tr.chk (decide (0 ≤ i9)) (Tr.chk true (Tr.chk (decide (i9.toNat < xs7.length)) (Tr.chk (shOk [Sk.str, Sk.sl 5] (xs7.getD i9.toNat [])) (Tr.chk true (Tr.chk true (Tr.chk (decide (n8 + 1 < 4294967296)) (Tr.chk true (Tr.leaf (R.s (s33_0 p q nl7 t7 xs7 (n8 + 1) (IntKind.i64.wrap (i9 + 1)) (List.take n8 ys0 ++ [[Sk.str.mk ((xs7.getD i9.toNat []).headD C.pnil), (Sk.sl 5).mk ((xs7.getD i9.toNat []).tail.headD C.pnil)]])))))))))))) (Tr.chk (decide (0 ≤ i9)) (Tr.chk true (Tr.chk (decide (i9.toNat < xs7.length)) (Tr.chk (shOk [Sk.str, Sk.sl 5] (xs7.getD i9.toNat [])) (Tr.br (Op.bytesLess ((xs7.getD i9.toNat []).headD C.pnil).st q) (Tr.chk (decide (0 ≤ i9)) (Tr.chk true (Tr.chk (decide (i9.toNat < xs7.length)) (Tr.chk (shOk [Sk.str, Sk.sl 5] (xs7.getD i9.toNat [])) (Tr.chk true (Tr.chk true (Tr.chk (decide (n8 + 1 < 4294967296)) (Tr.chk true (Tr.leaf (R.s (s33_0 p q nl7 t7 xs7 (n8 + 1) (IntKind.i64.wrap (i9 + 1)) (List.take n8 ys0 ++ [[Sk.str.mk ((xs7.getD i9.toNat []).headD C.pnil), (Sk.sl 5).mk ((xs7.getD i9.toNat []).tail.headD C.pnil)]])))))))))))) (Tr.leaf (R.s (s33_0 p q nl7 t7 xs7 n8 (IntKind.i64.wrap (i9 + 1)) ys0))))))))) (Tr.leaf (R.s (s33_0 p q nl7 t7 xs7 n8 (IntKind.i64.wrap (i9 + 1)) ys0)))))))) (Tr.leaf (R.x (x33_0x0 p q nl7 t7 xs7 n8 i9 ys0)))) := by kernel_rfl
theorem k33_0x0 (p : Bys) (q : Bys) (nl7 : OBo) (t7 : Bool) (xs7 : LLC) (n8 : Nat) (i9 : Int) (ys0 : LLC) : p33.fkx 0 (x33_0x0 p q nl7 t7 xs7 n8 i9 ys0) = (Tr.leaf (R.out [V.c (C.sl 2 none false (List.take n8 ys0))] [])) := by kernel_rfl
theorem t33 (s : Bys) (xs : LLC) (ys : LLC) (p : Bys) (q : Bys) : p33.ft ([V.agg [V.c (C.str s), V.c (C.sl 5 none false xs), V.c (C.sl 3 none false ys)], V.c (C.str p), V.c (C.str q)]) ([]) = (Tr.chk (isRows xs) (Tr.chk (isL ys) (Tr.chk (decide ((entT (Nd.node s (toRows xs) (decL ys))).length < 4294967290)) (Tr.ls 0 (s33_0 p q (none) false (ents (if okR (Nd.node s (toRows xs) (decL ys)) = true then entT (Nd.node s (toRows xs) (decL ys)) else [])) (0) (0) ([])))))) := by kernel_rfl
def rowsLen (l : List Ent) : Bool := l.all fun e => decide (e.2.length ≤ 9223372036854775807)
def s25 : CSpec := fun a h => match a, h with
  | [.agg [.c (.str s), .c (.sl 5 none false xs), .c (.sl 3 none false ys)], .c (.str p), .c (.sl 5 none false zs)], [] => some ([isRows xs, isL ys, isRows zs, decide ((entL (decL ys)).length < 1000000000)], [VT (putP (.node s (toRows xs) (decL ys)) p (toRows zs)).1, V.i (putP (.node s (toRows xs) (decL ys)) p (toRows zs)).2], [])
  | _, _ => none
def s31 : CSpec := fun a h => match a, h with
  | [.agg [.c (.str s), .c (.sl 5 none false xs), .c (.sl 3 none false ys)], .c (.str pf)], [] => some ([isRows xs, isL ys, decide ((entL (decL ys)).length < 1000000000)], [.c (.sl 2 none false (ents ((entP (.node s (toRows xs) (decL ys))).filter (fun e => begins e.1 pf))))], [])
  | _, _ => none
def s33 : CSpec := fun a h => match a, h with
  | [.agg [.c (.str s), .c (.sl 5 none false xs), .c (.sl 3 none false ys)], .c (.str pf), .c (.str pt)], [] => some ([isRows xs, isL ys, decide ((entL (decL ys)).length < 1000000000)], [.c (.sl 2 none false (ents ((entP (.node s (toRows xs) (decL ys))).filter (fun e => wB pf pt e.1))))], [])
  | _, _ => none
def s29p : CSpec := fun a h => match a, h with
  | [.c (.sl 2 nl tt xs), .c (.sl 2 nl2 t2 ys)], [] => some ([isEs xs, isEs ys, decide (toEs xs = toEs ys), decide (xs.length < 4294967296), rowsLen (toEs xs)], [V.b true], [])
  | _, _ => none
noncomputable abbrev p4 : Par := par E sh (ctOf [(14, s14n), (21, s21), (22, s22), (23, s23), (24, s24), (25, s25), (26, s26), (27, s27), (28, s28), (29, s29p), (30, s30), (31, s31), (32, s32), (33, s33)]) 4 4 0
abbrev c4_1 (s : Bys) (xs : LLC) (ys : LLC) := (Nd.node s (toRows xs) (decL ys))
abbrev c4_2 (s : Bys) (xs : LLC) (ys : LLC) (p : Bys) (zs : LLC) := (Nd.node (putP (c4_1 s xs ys) p (toRows zs)).fst.lab (toRows (rows (putP (c4_1 s xs ys) p (toRows zs)).fst.rows)) (decL (encL (putP (c4_1 s xs ys) p (toRows zs)).fst.kids)))
abbrev c4_3 (s : Bys) (xs : LLC) (ys : LLC) (p : Bys) := (ents (List.filter (fun (e : Ent) => begins e.fst p) (entP (c4_1 s xs ys))))
abbrev c4_4 (s : Bys) (xs : LLC) (ys : LLC) (p : Bys) (q : Bys) := (ents (List.filter (fun (e : Ent) => wB p q e.fst) (entP (c4_1 s xs ys))))
theorem t4 (s : Bys) (xs : LLC) (ys : LLC) (p : Bys) (zs : LLC) (q : Bys) : p4.ft ([V.agg [V.c (C.str s), V.c (C.sl 5 none false xs), V.c (C.sl 3 none false ys)], V.c (C.str p), V.c (C.sl 5 none false zs), V.c (C.str q)]) ([]) = (Tr.chk (isRows xs) (Tr.chk (isL ys) (Tr.chk (lensT (c4_1 s xs ys)) (Tr.br (!smallR 400 (c4_1 s xs ys)) (Tr.leaf (R.out [V.c (C.bool true)] [])) (Tr.br (decide (100 < (↑p.length : Int))) (Tr.leaf (R.out [V.c (C.bool true)] [])) (Tr.chk (isRows zs) (Tr.br (!shortR (toRows zs)) (Tr.leaf (R.out [V.c (C.bool true)] [])) (Tr.br (decide (100 < (↑q.length : Int))) (Tr.leaf (R.out [V.c (C.bool true)] [])) (Tr.chk (isRows xs) (Tr.chk (isL ys) (Tr.chk (isRows zs) (Tr.chk true (Tr.chk (isRows xs) (Tr.chk (isL ys) (Tr.chk (isRows zs) (Tr.chk (decide ((entL (decL ys)).length < 1000000000)) (Tr.chk (isRows (rows (putP (c4_1 s xs ys) p (toRows zs)).fst.rows)) (Tr.chk (isL (encL (putP (c4_1 s xs ys) p (toRows zs)).fst.kids)) (Tr.chk (isRows (rows (putP (c4_1 s xs ys) p (toRows zs)).fst.rows)) (Tr.chk (isL (encL (putP (c4_1 s xs ys) p (toRows zs)).fst.kids)) (Tr.chk (lensT (c4_2 s xs ys p zs)) (Tr.br (sameT (c4_2 s xs ys p zs) (c4_2 s xs ys p zs)) (Tr.br ((putP (c4_1 s xs ys) p (toRows zs)).snd == (putP (c4_1 s xs ys) p (toRows zs)).snd) (Tr.chk (isRows xs) (Tr.chk (isL ys) (Tr.chk (isRows xs) (Tr.chk (isL ys) (Tr.chk (decide ((entT (c4_1 s xs ys)).length < 4294967290)) (Tr.chk (isRows (rows (getR (c4_1 s xs ys) p))) (Tr.chk (isRows (rows (getR (c4_1 s xs ys) p))) (Tr.chk (decide ((rows (getR (c4_1 s xs ys) p)).length ≤ 9223372036854775807)) (Tr.br (decide (toRows (rows (getR (c4_1 s xs ys) p)) = toRows (rows (getR (c4_1 s xs ys) p)))) (Tr.chk (isRows xs) (Tr.chk (isL ys) (Tr.chk (decide ((entL (decL ys)).length < 1000000000)) (Tr.chk (isRows xs) (Tr.chk (isL ys) (Tr.chk (decide ((entL (decL ys)).length < 1000000000)) (Tr.chk (isEs (c4_3 s xs ys p)) (Tr.chk (isEs (c4_3 s xs ys p)) (Tr.chk (decide (toEs (c4_3 s xs ys p) = toEs (c4_3 s xs ys p))) (Tr.chk (decide ((c4_3 s xs ys p).length < 4294967296)) (Tr.chk (rowsLen (toEs (c4_3 s xs ys p))) (Tr.br true (Tr.chk (isRows xs) (Tr.chk (isL ys) (Tr.chk (decide ((entL (decL ys)).length < 1000000000)) (Tr.chk (isRows xs) (Tr.chk (isL ys) (Tr.chk (decide ((entL (decL ys)).length < 1000000000)) (Tr.chk (isEs (c4_4 s xs ys p q)) (Tr.chk (isEs (c4_4 s xs ys p q)) (Tr.chk (decide (toEs (c4_4 s xs ys p q) = toEs (c4_4 s xs ys p q))) (Tr.chk (decide ((c4_4 s xs ys p q).length < 4294967296)) (Tr.chk (rowsLen (toEs (c4_4 s xs ys p q))) (Tr.br true (Tr.leaf (R.out [V.c (C.bool true)] [])) (Tr.leaf (R.out [V.c (C.bool false)] [])))))))))))))) (Tr.leaf (R.out [V.c (C.bool false)] [])))))))))))))) (Tr.leaf (R.out [V.c (C.bool false)] []))))))))))) (Tr.leaf (R.out [V.c (C.bool false)] []))) (Tr.leaf (R.out [V.c (C.bool false)] [])))))))))))))))))))))))) := by kernel_rfl
end Go.Proofs.YtgaabjmbnomimaaGreatDoor
namespace Go.Proofs.YtgaabjmbnomimaaGreatDoor
open Go Go.Ev
theorem insQ_del {e : Ent} (hr : e.2 = []) : ∀ {x : List Ent}, Rise x → insQ true e x = insE x e.1 e.2
  | [], _ => by rw [insE, if_pos hr]; rfl
  | a :: r, h => by
    rw [Rise, List.pairwise_cons] at h
    rw [insQ, insE]
    cases c : Op.bytesLess a.1 e.1 with
    | true =>
      have hne : (a.1 == e.1) = false := by rw [beq_eq_false_iff_ne]; exact bl_ne c
      rw [hne, if_pos rfl]
      simp only [Bool.not_true, Bool.false_and, cond_false, List.nil_append, Bool.true_or, List.singleton_append]
      rw [insQ_del hr h.2]
    | false =>
      rw [if_neg (by simp)]
      have hgt : ∀ b ∈ r, Op.bytesLess e.1 b.1 = true := fun b hb => by
        cases d : Op.bytesLess e.1 a.1 with
        | true => exact bl_trans d (h.1 b hb)
        | false => rw [← bl_total _ _ c d]; exact h.1 b hb
      simp only [Bool.not_true, Bool.false_and, cond_false, List.nil_append, Bool.true_or]
      rw [insQ_put hgt]
      by_cases d : a.1 = e.1
      · rw [if_pos d, if_pos hr, beq_iff_eq.2 d]; rfl
      · rw [if_neg d, if_pos hr, beq_eq_false_iff_ne.2 d]; rfl
theorem insQ_any {x : List Ent} (h : Rise x) (p : Bys) (rs : List Row) : insQ (decide (rs.length = 0)) (p, rs) x = insE x p rs := by
  by_cases k : rs = []
  · rw [decide_eq_true (List.length_eq_zero_iff.2 k)]
    exact insQ_del (e := (p, rs)) k h
  · rw [decide_eq_false (fun e => k (List.length_eq_zero_iff.1 e))]
    exact insQ_insE (e := (p, rs)) k h
theorem f25 (t : Nd) (p : Bys) (rs : List Row) (hk : (entL t.kids).length < 1000000000) : call E 25 [VT t, .c (.str p), .c (.sl 5 none false (rows rs))] [] = some ([VT (putP t p rs).1, V.i (putP t p rs).2], []) := by
  generalize hdd : depL (putR t p rs).kids + 1 = dd
  have hct : (ctOf [(70, s70), (71, s71), (72, s72), (73, s73 dd), (74, s74), (75, s75)]).ok E := ctOf_cons s70_ok (ctOf_cons s71_ok (ctOf_cons s72_ok (ctOf_cons (s73_ok dd) (ctOf_cons s74_ok (ctOf_cons s75_ok ctOf_nil)))))
  refine call_of (E := E) (sh := sh) (ct := ctOf [(70, s70), (71, s71), (72, s72), (73, s73 dd), (74, s74), (75, s75)]) (na := 3) (m := 0) hct rfl rfl rfl rfl rfl rfl ?_
  show (p25 dd).fd ((p25 dd).ft [VT t, .c (.str p), .c (.sl 5 none false (rows rs))] []) = some (.out _ _)
  rw [show (p25 dd).ft [VT t, .c (.str p), .c (.sl 5 none false (rows rs))] [] = _ from t25 dd _ _ _ _ _]
  have lt : (entT t).length < 4294967290 := by have := root_len t; omega
  have pt : (entP t).length < 1000000000 := entP_len t hk
  simp only [toRows_rows, Nd.eta, isRows_rows, isL_enc, decL_enc, fd_br, fd_chk', fd_leaf, if_true, Bool.not_eq_true', lt, decide_true]
  unfold putP
  by_cases c1 : okR t = false
  · simp [c1]; exact ⟨rfl, rfl, rfl⟩
  rw [Bool.not_eq_false] at c1
  by_cases c2 : isPath p = false
  · simp [c1, c2]; exact ⟨rfl, rfl, rfl⟩
  rw [Bool.not_eq_false] at c2
  by_cases c3 : right rs = false
  · simp [c1, c2, c3]; exact ⟨rfl, rfl, rfl⟩
  rw [Bool.not_eq_false] at c3
  obtain ⟨g1, g2⟩ := isPath_iff.1 c2
  obtain ⟨k1, k2⟩ := putR_ok c1 g1 g2 c3
  have hI : insQ (decide (rs.length = 0)) (p, rs) (entP t) = entR (putR t p rs) := by
    rw [insQ_any (gd_entP t).rise, k2, entP_R c1]
  have hlen := insQ_len (decide (rs.length = 0)) (p, rs) (entP t)
  rw [hI] at hlen
  have hl2 : (entR (putR t p rs)).length < 4294967290 := by
    have : cond (decide (rs.length = 0)) 0 1 ≤ 1 := by cases decide (rs.length = 0) <;> simp
    omega
  obtain ⟨b1, b2⟩ := theK_eq (d := dd) (l := entR (putR t p rs)) (n := 0) (t := (putR t p rs).kids) ⟨[], 24, (okR_iff.1 k1).2.2, by simp, by omega, rfl, by simp [pre', entR]⟩
  simp only [c1, c2, c3, root_ent c1, Bool.true_eq_false, if_false, if_true, isEs_ents, toEs_ents, ents_length, hI, b1, b2, show (entP t).length < 4294967290 by omega, show (entR (putR t p rs)).length < 4294967295 by omega, decide_true, and_self]
  refine congrArg (fun v => some (R.out [v, V.c (C.int IntKind.i64 0)] [])) ?_
  show VT (Nd.node [] [] (putR t p rs).kids) = VT (putR t p rs)
  rw [node_eta k1]
theorem s25_ok : CSpecOk E 25 s25 := by
  intro a h cs vals h' he hc
  unfold s25 at he
  split at he <;> simp only [Option.some.injEq, Prod.mk.injEq, reduceCtorEq] at he
  rename_i s xs ys p zs
  obtain ⟨rfl, rfl, rfl⟩ := he
  simp only [allT, Bool.and_true, Bool.and_eq_true, decide_eq_true_eq] at hc
  obtain ⟨h1, h2, h3, h4⟩ := hc
  obtain ⟨rs, rfl⟩ := rows_ex h1
  obtain ⟨ks, rfl⟩ := isL_ex h2
  obtain ⟨qs, rfl⟩ := rows_ex h3
  simp only [toRows_rows, decL_enc] at *
  exact f25 (.node s rs ks) p qs h4
theorem refE_ent2 (t : Nd) : (if okR t = true then entT t else []) = entP t := by
  by_cases c : okR t = true
  · rw [if_pos c, root_ent c]
  · rw [if_neg c, entP]
    rw [Bool.not_eq_true] at c
    rw [c]; rfl
theorem filt31 (l : List Ent) (pf : Bys) (hl : l.length < 4294967290) : p31.fd (Tr.ls 0 (s31_0 pf none false (ents l) 0 0 [])) = some (.out [.c (.sl 2 none false (ents (l.filter (fun e => begins e.1 pf))))] []) := by
  have hct : (ctOf [(75, s75), (82, s82)]).ok E := ctOf_cons s75_ok (ctOf_cons s82_ok ctOf_nil)
  refine fd_post (p := p31) hct (by kernel_rfl) rfl (list_post (p := p31) hct (b := b31_0) l.length (fun k (_ : Unit) => s31_0 pf none false (ents l) ((l.take k).filter (fun e => begins e.1 pf)).length k (ents ((l.take k).filter (fun e => begins e.1 pf)))) (fun _ _ => True) _ ?_ ?_ 0 (Nat.zero_le _) () trivial)
  · rintro k _ hk _
    left
    refine ⟨(), trivial, ?_⟩
    have hle : ((l.take k).filter fun e => begins e.1 pf).length ≤ l.length := Nat.le_trans (List.length_filter_le _ _) (by rw [List.length_take]; omega)
    rw [t31_0, List.take_succ_eq_append_getElem hk, List.filter_append]
    simp only [ld_br, ld_chk', ld_leaf, fd_br, fd_chk', fd_leaf, decide_true, decide_eq_true_eq, if_true, Int.toNat_natCast, Int.natCast_nonneg, Int.ofNat_lt, Int.ofNat_le, Bool.false_eq_true, if_false, bne_iff_ne, beq_iff_eq, ne_eq, not_true_eq_false, not_false_eq_true, Bool.not_eq_true', decide_eq_false_iff_not, reduceCtorEq, rows_length, pcs_length, er_ok, er_ok', ep_ok, ep_ok', dr_er, dp_ep, isRows_rows, isPcs_pcs, toRows_rows, toPcs_pcs, rows_take, rows_drop, pcs_take, pcs_drop, rows_append, pcs_append, ints_length, isInts_ints, toInts_ints, ei_i, ei_ok, mk_headD, ints_take, ints_drop, ints_append, ints_snoc, ints_snoc', List.take_length, Nat.zero_add, Nat.le_refl, er_a, er_b, er_k, er_n, er_s, er_v, ep_a, ep_b, ep_hk, ep_hn, ep_hs, ep_wk, ep_wn, ep_ws, ents_length, hk, ents_getD hk, ee_ok, ee_p, ee_mk2, ents_take' rfl, ents_snoc1, show ((l.take k).filter fun e => begins e.1 pf).length + 1 < 4294967296 by omega, wrap_succ (show k < 9223372036854775807 by omega)]
    cases c : begins l[k].1 pf <;> simp [c]
  · rintro _ _
    refine ⟨x31_0x0 pf none false (ents l) ((l.take l.length).filter (fun e => begins e.1 pf)).length l.length (ents ((l.take l.length).filter (fun e => begins e.1 pf))), by simp, ?_, ?_⟩
    · rw [k31_0x0, fd_leaf, ents_take' rfl, List.take_length]
    · rw [t31_0]; simp only [ld_br, ld_chk', ld_leaf, fd_br, fd_chk', fd_leaf, decide_true, decide_eq_true_eq, if_true, Int.toNat_natCast, Int.natCast_nonneg, Int.ofNat_lt, Int.ofNat_le, Bool.false_eq_true, if_false, bne_iff_ne, beq_iff_eq, ne_eq, not_true_eq_false, not_false_eq_true, Bool.not_eq_true', decide_eq_false_iff_not, reduceCtorEq, rows_length, pcs_length, er_ok, er_ok', ep_ok, ep_ok', dr_er, dp_ep, isRows_rows, isPcs_pcs, toRows_rows, toPcs_pcs, rows_take, rows_drop, pcs_take, pcs_drop, rows_append, pcs_append, ints_length, isInts_ints, toInts_ints, ei_i, ei_ok, mk_headD, ints_take, ints_drop, ints_append, ints_snoc, ints_snoc', List.take_length, Nat.zero_add, Nat.le_refl, er_a, er_b, er_k, er_n, er_s, er_v, ep_a, ep_b, ep_hk, ep_hn, ep_hs, ep_wk, ep_wn, ep_ws, ents_length, Int.lt_irrefl]
theorem f31 (t : Nd) (pf : Bys) (hk : (entL t.kids).length < 1000000000) : call E 31 [VT t, .c (.str pf)] [] = some ([.c (.sl 2 none false (ents ((entP t).filter (fun e => begins e.1 pf))))], []) := by
  have hct : (ctOf [(75, s75), (82, s82)]).ok E := ctOf_cons s75_ok (ctOf_cons s82_ok ctOf_nil)
  refine call_of (E := E) (sh := sh) (ct := ctOf [(75, s75), (82, s82)]) (na := 2) (m := 0) hct rfl rfl rfl rfl rfl rfl ?_
  show p31.fd (p31.ft [VT t, .c (.str pf)] []) = some (.out _ _)
  rw [show p31.ft [VT t, .c (.str pf)] [] = _ from t31 _ _ _ _]
  have lt : (entT t).length < 4294967290 := by have := root_len t; omega
  have pt : (entP t).length < 1000000000 := entP_len t hk
  simp only [toRows_rows, Nd.eta, isRows_rows, isL_enc, decL_enc, fd_br, fd_chk', fd_leaf, if_true, lt, decide_true, refE_ent2]
  refine filt31 (entP t) pf ?_
  omega
theorem s31_ok : CSpecOk E 31 s31 := by
  intro a h cs vals h' he hc
  unfold s31 at he
  split at he <;> simp only [Option.some.injEq, Prod.mk.injEq, reduceCtorEq] at he
  rename_i s xs ys pf
  obtain ⟨rfl, rfl, rfl⟩ := he
  simp only [allT, Bool.and_true, Bool.and_eq_true, decide_eq_true_eq] at hc
  obtain ⟨h1, h2, h3⟩ := hc
  obtain ⟨rs, rfl⟩ := rows_ex h1
  obtain ⟨ks, rfl⟩ := isL_ex h2
  simp only [toRows_rows, decL_enc] at *
  exact f31 (.node s rs ks) pf h3
theorem filt33 (l : List Ent) (pf pt : Bys) (hl : l.length < 4294967290) : p33.fd (Tr.ls 0 (s33_0 pf pt none false (ents l) 0 0 [])) = some (.out [.c (.sl 2 none false (ents (l.filter (fun e => wB pf pt e.1))))] []) := by
  have hct : (ctOf [(75, s75)]).ok E := ctOf_cons s75_ok ctOf_nil
  refine fd_post (p := p33) hct (by kernel_rfl) rfl (list_post (p := p33) hct (b := b33_0) l.length (fun k (_ : Unit) => s33_0 pf pt none false (ents l) ((l.take k).filter (fun e => wB pf pt e.1)).length k (ents ((l.take k).filter (fun e => wB pf pt e.1)))) (fun _ _ => True) _ ?_ ?_ 0 (Nat.zero_le _) () trivial)
  · rintro k _ hk _
    left
    refine ⟨(), trivial, ?_⟩
    have hle : ((l.take k).filter fun e => wB pf pt e.1).length ≤ l.length := Nat.le_trans (List.length_filter_le _ _) (by rw [List.length_take]; omega)
    rw [t33_0, List.take_succ_eq_append_getElem hk, List.filter_append]
    have hw : wB pf pt l[k].1 = (!Op.bytesLess l[k].1 pf && (pt == [] || Op.bytesLess l[k].1 pt)) := by
      unfold wB
      cases pt with
      | nil => rfl
      | cons b q => rfl
    simp only [ld_br, ld_chk', ld_leaf, fd_br, fd_chk', fd_leaf, decide_true, decide_eq_true_eq, if_true, Int.toNat_natCast, Int.natCast_nonneg, Int.ofNat_lt, Int.ofNat_le, Bool.false_eq_true, if_false, bne_iff_ne, beq_iff_eq, ne_eq, not_true_eq_false, not_false_eq_true, Bool.not_eq_true', decide_eq_false_iff_not, reduceCtorEq, rows_length, pcs_length, er_ok, er_ok', ep_ok, ep_ok', dr_er, dp_ep, isRows_rows, isPcs_pcs, toRows_rows, toPcs_pcs, rows_take, rows_drop, pcs_take, pcs_drop, rows_append, pcs_append, ints_length, isInts_ints, toInts_ints, ei_i, ei_ok, mk_headD, ints_take, ints_drop, ints_append, ints_snoc, ints_snoc', List.take_length, Nat.zero_add, Nat.le_refl, er_a, er_b, er_k, er_n, er_s, er_v, ep_a, ep_b, ep_hk, ep_hn, ep_hs, ep_wk, ep_wn, ep_ws, ents_length, hk, ents_getD hk, ee_ok, ee_p, ee_mk2, ents_take' rfl, ents_snoc1, show ((l.take k).filter fun e => wB pf pt e.1).length + 1 < 4294967296 by omega, wrap_succ (show k < 9223372036854775807 by omega)]
    by_cases hp : pt = []
    · subst hp
      cases c1 : Op.bytesLess l[k].1 pf <;> simp [hw, c1]
    · cases c1 : Op.bytesLess l[k].1 pf <;> cases c3 : Op.bytesLess l[k].1 pt <;> simp [hw, c1, c3, hp]
  · rintro _ _
    refine ⟨x33_0x0 pf pt none false (ents l) ((l.take l.length).filter (fun e => wB pf pt e.1)).length l.length (ents ((l.take l.length).filter (fun e => wB pf pt e.1))), by simp, ?_, ?_⟩
    · rw [k33_0x0, fd_leaf, ents_take' rfl, List.take_length]
    · rw [t33_0]; simp only [ld_br, ld_chk', ld_leaf, fd_br, fd_chk', fd_leaf, decide_true, decide_eq_true_eq, if_true, Int.toNat_natCast, Int.natCast_nonneg, Int.ofNat_lt, Int.ofNat_le, Bool.false_eq_true, if_false, bne_iff_ne, beq_iff_eq, ne_eq, not_true_eq_false, not_false_eq_true, Bool.not_eq_true', decide_eq_false_iff_not, reduceCtorEq, rows_length, pcs_length, er_ok, er_ok', ep_ok, ep_ok', dr_er, dp_ep, isRows_rows, isPcs_pcs, toRows_rows, toPcs_pcs, rows_take, rows_drop, pcs_take, pcs_drop, rows_append, pcs_append, ints_length, isInts_ints, toInts_ints, ei_i, ei_ok, mk_headD, ints_take, ints_drop, ints_append, ints_snoc, ints_snoc', List.take_length, Nat.zero_add, Nat.le_refl, er_a, er_b, er_k, er_n, er_s, er_v, ep_a, ep_b, ep_hk, ep_hn, ep_hs, ep_wk, ep_wn, ep_ws, ents_length, Int.lt_irrefl]
theorem f33 (t : Nd) (pf pt : Bys) (hk : (entL t.kids).length < 1000000000) : call E 33 [VT t, .c (.str pf), .c (.str pt)] [] = some ([.c (.sl 2 none false (ents ((entP t).filter (fun e => wB pf pt e.1))))], []) := by
  have hct : (ctOf [(75, s75)]).ok E := ctOf_cons s75_ok ctOf_nil
  refine call_of (E := E) (sh := sh) (ct := ctOf [(75, s75)]) (na := 3) (m := 0) hct rfl rfl rfl rfl rfl rfl ?_
  show p33.fd (p33.ft [VT t, .c (.str pf), .c (.str pt)] []) = some (.out _ _)
  rw [show p33.ft [VT t, .c (.str pf), .c (.str pt)] [] = _ from t33 _ _ _ _ _]
  have lt : (entT t).length < 4294967290 := by have := root_len t; omega
  have pt' : (entP t).length < 1000000000 := entP_len t hk
  simp only [toRows_rows, Nd.eta, isRows_rows, isL_enc, decL_enc, fd_br, fd_chk', fd_leaf, if_true, lt, decide_true, refE_ent2]
  refine filt33 (entP t) pf pt ?_
  omega
theorem s33_ok : CSpecOk E 33 s33 := by
  intro a h cs vals h' he hc
  unfold s33 at he
  split at he <;> simp only [Option.some.injEq, Prod.mk.injEq, reduceCtorEq] at he
  rename_i s xs ys pf pt
  obtain ⟨rfl, rfl, rfl⟩ := he
  simp only [allT, Bool.and_true, Bool.and_eq_true, decide_eq_true_eq] at hc
  obtain ⟨h1, h2, h3⟩ := hc
  obtain ⟨rs, rfl⟩ := rows_ex h1
  obtain ⟨ks, rfl⟩ := isL_ex h2
  simp only [toRows_rows, decL_enc] at *
  exact f33 (.node s rs ks) pf pt h3
theorem s29p_ok : CSpecOk E 29 s29p := by
  intro a h cs vals h' he hc
  unfold s29p at he
  split at he <;> simp only [Option.some.injEq, Prod.mk.injEq, reduceCtorEq] at he
  rename_i nl tt xs nl2 t2 ys
  obtain ⟨rfl, rfl, rfl⟩ := he
  simp only [allT, Bool.and_true, Bool.and_eq_true, decide_eq_true_eq] at hc
  obtain ⟨h1, h2, h3, h4, h5⟩ := hc
  obtain ⟨x, rfl⟩ := ents_ex h1
  obtain ⟨y, rfl⟩ := ents_ex h2
  rw [toEs_ents, toEs_ents] at h3
  subst h3
  rw [ents_length] at h4
  rw [toEs_ents] at h5
  refine f29 x nl tt nl2 t2 h4 fun e he => ?_
  have := List.all_eq_true.1 h5 e he
  simpa using this
end Go.Proofs.YtgaabjmbnomimaaGreatDoor
namespace Go.Proofs.YtgaabjmbnomimaaGreatDoor
open Go Go.Ev
theorem f4 (t : Nd) (p : Bys) (rs : List Row) (q : Bys) (ht : lensT t = true) : call E 4 [VT t, .c (.str p), .c (.sl 5 none false (rows rs)), .c (.str q)] [] = some ([V.b true], []) := by
  have hct : (ctOf [(14, s14n), (21, s21), (22, s22), (23, s23), (24, s24), (25, s25), (26, s26), (27, s27), (28, s28), (29, s29p), (30, s30), (31, s31), (32, s32), (33, s33)]).ok E :=
    ctOf_cons s17n_ok (ctOf_cons s21_ok (ctOf_cons s22_ok (ctOf_cons s23_ok (ctOf_cons s24_ok (ctOf_cons s25_ok (ctOf_cons s26_ok (ctOf_cons s27_ok (ctOf_cons s28_ok (ctOf_cons s29p_ok (ctOf_cons s30_ok (ctOf_cons s31_ok (ctOf_cons s32_ok (ctOf_cons s33_ok ctOf_nil)))))))))))))
  refine call_of (E := E) (sh := sh) (ct := ctOf [(14, s14n), (21, s21), (22, s22), (23, s23), (24, s24), (25, s25), (26, s26), (27, s27), (28, s28), (29, s29p), (30, s30), (31, s31), (32, s32), (33, s33)]) (na := 4) (m := 0) hct rfl rfl rfl rfl rfl rfl ?_
  show p4.fd (p4.ft [VT t, .c (.str p), .c (.sl 5 none false (rows rs)), .c (.str q)] []) = some (.out _ _)
  rw [show p4.ft [VT t, .c (.str p), .c (.sl 5 none false (rows rs)), .c (.str q)] [] = _ from t4 _ _ _ _ _ _]
  have e1 : c4_1 t.lab (rows t.rows) (encL t.kids) = t := by unfold c4_1; rw [toRows_rows, decL_enc, Nd.eta]
  have e2 : c4_2 t.lab (rows t.rows) (encL t.kids) p (rows rs) = (putP t p rs).1 := by unfold c4_2; rw [e1, toRows_rows, toRows_rows, decL_enc, Nd.eta]
  have e3 : c4_3 t.lab (rows t.rows) (encL t.kids) p = ents ((entP t).filter (fun e => begins e.1 p)) := by unfold c4_3; rw [e1]
  have e4 : c4_4 t.lab (rows t.rows) (encL t.kids) p q = ents ((entP t).filter (fun e => wB p q e.1)) := by unfold c4_4; rw [e1]
  simp only [e1, e2, e3, e4, toRows_rows, isRows_rows, isL_enc, decL_enc, ht, fd_br, fd_chk', fd_leaf, if_true, Bool.not_eq_true', decide_eq_true_eq]
  by_cases s1 : smallR 400 t = false
  · rw [if_pos s1]
  rw [if_neg s1]
  by_cases s2 : (100 : Int) < p.length
  · rw [if_pos s2]
  rw [if_neg s2]
  by_cases s3 : shortR rs = false
  · rw [if_pos s3]
  rw [if_neg s3]
  by_cases s4 : (100 : Int) < q.length
  · rw [if_pos s4]
  rw [if_neg s4]
  rw [Bool.not_eq_false] at s1 s3
  simp only [smallR, decide_eq_true_eq] at s1
  have he := leftT_ent t 400 60 (by omega) s1
  have hek : (entL t.kids).length ≤ (entT t).length := by rw [entT_eq]; simp
  have hk : (entL t.kids).length < 1000000000 := by omega
  have hP : (entP t).length < 1000000000 := entP_len t hk
  have hgd := gd_entP t
  have hrl : ∀ w : Ent → Bool, rowsLen ((entP t).filter w) = true := fun w => by
    rw [rowsLen, List.all_eq_true]
    intro e he
    exact decide_eq_true (right_len63 (hgd.right e (List.mem_filter.1 he).1))
  have hfl : ∀ w : Ent → Bool, ((entP t).filter w).length < 1000000000 := fun w => Nat.lt_of_le_of_lt (List.length_filter_le _ _) hP
  have hg : (getR t p).length ≤ 9223372036854775807 := by
    by_cases k : getR t p = []
    · rw [k]; simp
    · rw [getR_P] at k ⊢
      obtain ⟨e, he, hp⟩ := look_ex k
      rw [← hp, look_in hgd.rise he]
      exact right_len63 (hgd.right e he)
  have hlp : lensT (putP t p rs).1 = true := by
    unfold putP
    split
    · rename_i h
      obtain ⟨g1, g2⟩ := isPath_iff.1 h.2.1
      exact okR_lens (putR_ok h.1 g1 g2 h.2.2).1
    · rfl
  have h3 := hfl fun e => begins e.1 p
  have h4 := hfl fun e => wB p q e.1
  simp only [hk, hg, hlp, hrl, sameT_refl, rows_length, ents_length, isEs_ents, toEs_ents, beq_self_eq_true, decide_true, if_true, show (entT t).length < 4294967290 by omega, show ((entP t).filter fun e => begins e.1 p).length < 4294967296 by omega, show ((entP t).filter fun e => wB p q e.1).length < 4294967296 by omega]
end Go.Proofs.YtgaabjmbnomimaaGreatDoor
namespace Go.Proofs.YtgaabjmbnomimaaGreatDoor
open Go Go.Ev
theorem l4 (t : Lt) (p : Bys) (l : Lr) (q : Bys) : call E 4 [VT t.t, .c (.str p), .c (.sl 5 none false (rows l.l)), .c (.str q)] [] = some ([V.b true], []) := f4 t.t p l.l q t.ok
end Go.Proofs.YtgaabjmbnomimaaGreatDoor
