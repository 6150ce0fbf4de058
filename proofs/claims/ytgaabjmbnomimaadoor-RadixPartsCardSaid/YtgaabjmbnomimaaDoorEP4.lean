/-
  Chapter 09 (radix): what a walk hands over, of Under's closures; Chapter 09 (radix), trees, written by a program: Between's walk; the lists of both; Chapter 09 (radix): Between's walk; Under, Between; Begins; Trees, written by a program: what is the same: rows, tries, entries, texts; What is the same: rows, tries, entries, texts; Chapter 11 (delta), trees, written by a program: what comes of a path; right trees; sides; Chapter 11 (delta), trees, written by a program: what sides hands over; Chapter 11, plain: merges, changes, and what follows of them; Chapter 11 (delta), trees, written by a pro.
-/
import Derived.Test.YtgaabjmbnomimaaDoorRP1
set_option linter.all false
namespace Go.Proofs.YtgaabjmbnomimaaDoor
open Go Go.Ev
theorem want_nil {u : List (List V)} {b : Bool} (hw : Want (List.map encE []) u b) : u = [] ∧ b = false := by
  obtain ⟨m, h1, h2, h3, h4⟩ := want_take hw
  refine ⟨by rw [h1]; simp, ?_⟩
  cases b with
  | false => rfl
  | true => have := h4 rfl; simp at h2; omega
def boxU (pf q s : Bys) (rn : OBo) (rt : Bool) (xs : LLC) (kn : OBo) (kt : Bool) (ys : LLC) : Hp := [.box [.c (.str q)], .box [.c (.str s), .c (.sl 5 rn rt xs), .c (.sl 3 kn kt ys)], .box [.fn 88 [.fp [.str pf]]]]
theorem sq166u_ok (pf q s : Bys) (rn : OBo) (rt : Bool) (rs : List Row) (kn : OBo) (kt : Bool) (ks : List Nd) :
    E.seq 166 [.yl 3, .ptr 0 0 0 0, .ptr 1 0 0 0, .ptr 2 0 0 0] (boxU pf q s rn rt (rows rs) kn kt (encL ks)) = some ((walkT (alU pf) q (.node s rs ks)).map encE) := by
  have : sq 166 [.yl 3, .ptr 0 0 0 0, .ptr 1 0 0 0, .ptr 2 0 0 0] (boxU pf q s rn rt (rows rs) kn kt (encL ks)) = some ((walkT (alU pf) q (.node s rs ks)).map encE) := by
    simp only [sq, sq166, boxU, alongP, toRows_rows, decL_enc]
  exact this
set_option maxHeartbeats 1000000 in
theorem f166u (pf : Bys) : ∀ (d : Nat) (q s : Bys) (rn : OBo) (rt : Bool) (rs : List Row) (kn : OBo) (kt : Bool) (ks : List Nd) (n : Nat), depL ks < d → q.length + s.length + n ≤ 24 → kidsOk ks n → right rs = true → (rn ≠ some true ∨ rs = []) →
    ∀ (u : List (List V)) (b : Bool), Want ((walkT (alU pf) q (.node s rs ks)).map encE) u b →
    call E 166 args166 (boxU pf q s rn rt (rows rs) kn kt (encL ks) ++ [.yo u b]) = some ([], boxU pf q s rn rt (rows rs) kn kt (encL ks) ++ [.yo [] b])
  | 0, _, _, _, _, _, _, _, _, _, h, _, _, _, _, _, _, _ => by omega
  | d + 1, q, s, rn, rt, rs, kn, kt, ks, n, hd, hl, hk, hr, hn, u, b, hw => by
    have hct : (ctOf [(88, s88), (68, s68), (134, s134u)]).ok E := ctOf_cons s88_ok (ctOf_cons s68_ok (ctOf_cons s134u_ok ctOf_nil))
    refine call_of (E := E) (sh := sh) (ct := ctOf [(88, s88), (68, s68), (134, s134u)]) (na := 4) (m := 4) hct rfl rfl rfl rfl rfl rfl ?_
    show p166u.fd (p166u.ft [.yl 3, .ptr 0 0 0 0, .ptr 1 0 0 0, .ptr 2 0 0 0] [.box [.c (.str q)], .box [.c (.str s), .c (.sl 5 rn rt (rows rs)), .c (.sl 3 kn kt (encL ks))], .box [.fn 88 [.fp [.str pf]]], .yo u b]) =
      some (.out [] [.box [.c (.str q)], .box [.c (.str s), .c (.sl 5 rn rt (rows rs)), .c (.sl 3 kn kt (encL ks))], .box [.fn 88 [.fp [.str pf]]], .yo [] b])
    rw [t166u, encL_length]
    have hkl := okL_len (okL_iff'.2 hk) (by omega)
    have hrl := right_len4 hr
    have hn' : rn ≠ some true ∨ rows rs = [] := hn.imp id fun h => by rw [h]; rfl
    have hql : q.length + s.length < 4294967296 := by omega
    cases cal : alU pf (q ++ s) with
    | false =>
      rw [walkT_eq, cal] at hw
      obtain ⟨rfl, rfl⟩ := want_nil hw
      simp only [nd_ok, nd_lab, nd_rows, nd_kids, encL_length, isL_enc, decL_enc, wrap_hd, hd_pos, ld_br, ld_chk', ld_leaf, fd_br, fd_chk', fd_leaf, decide_true, decide_eq_true_eq, if_true, Int.toNat_natCast, Int.natCast_nonneg, Int.ofNat_lt, Int.ofNat_le, Bool.false_eq_true, if_false, bne_iff_ne, beq_iff_eq, ne_eq, not_true_eq_false, not_false_eq_true, Bool.not_eq_true', decide_eq_false_iff_not, reduceCtorEq, rows_length, pcs_length, er_ok, er_ok', ep_ok, ep_ok', dr_er, dp_ep, isRows_rows, isPcs_pcs, toRows_rows, toPcs_pcs, rows_take, rows_drop, pcs_take, pcs_drop, rows_append, pcs_append, ints_length, isInts_ints, toInts_ints, ei_i, ei_ok, mk_headD, ints_take, ints_drop, ints_append, ints_snoc, ints_snoc', List.take_length, Nat.zero_add, Nat.le_refl, er_a, er_b, er_k, er_n, er_s, er_v, ep_a, ep_b, ep_hk, ep_hn, ep_hs, ep_wk, ep_wn, ep_ws, hql, cal, Bool.not_false, if_true]
    | true =>
    rw [walkT_eq, cal] at hw
    simp only [cond_true] at hw
    obtain ⟨m, hu, hm0, hm1, hm2⟩ := want_take hw
    generalize hes : (ownW (q ++ s) rs ++ walkL (alU pf) (q ++ s) ks).map encE = es at *
    have hesl : es.length = (ownW (q ++ s) rs).length + (walkL (alU pf) (q ++ s) ks).length := by rw [← hes]; simp
    have at0 : At u b m 0 u := ⟨rfl, Nat.zero_le _, fun h => hm2 h⟩
    -- the kids
    have key : ∀ r : List (List V), At u b m (ownW (q ++ s) rs).length r → p166u.fd (Tr.ls 0 (s166u_0v pf q s rn rt (rows rs) kn kt (encL ks) r b (q ++ s) ks.length 0)) =
        some (.out [] [.box [.c (.str q)], .box [.c (.str s), .c (.sl 5 rn rt (rows rs)), .c (.sl 3 kn kt (encL ks))], .box [.fn 88 [.fp [.str pf]]], .yo [] b]) := by
      intro r hat
      refine fd_post hct (by kernel_rfl) rfl (list_post (p := p166u) hct (b := b166u_0v) ks.length (fun k (r : List (List V)) => s166u_0v pf q s rn rt (rows rs) kn kt (encL ks) r b (q ++ s) ks.length k) (fun k r => At u b m ((ownW (q ++ s) rs).length + (walkL (alU pf) (q ++ s) (ks.take k)).length) r) _ ?_ ?_ 0 (Nat.zero_le _) r (by simpa [walkL] using hat))
      · intro k r hk2 hat
        have hT := hk.1 _ (List.getElem_mem hk2)
        obtain ⟨g1, g2, g3, g4, g5⟩ := okT_iff.1 hT
        have hkid : depL ks[k].kids < d := by have := depL_kid (List.getElem_mem hk2); omega
        have hnx := walkL_take (alU pf) (q ++ s) hk2
        have hle := walkL_take_le (alU pf) (q ++ s) ks (k + 1)
        have hesk : ∀ j, (hj : j < (walkT (alU pf) (q ++ s) ks[k]).length) → es[(ownW (q ++ s) rs).length + (walkL (alU pf) (q ++ s) (ks.take k)).length + j]? = some (encE (walkT (alU pf) (q ++ s) ks[k])[j]) := fun j hj => by
          rw [← hes, List.getElem?_map, List.getElem?_append_right (by omega)]
          have e0 : walkL (alU pf) (q ++ s) ks = walkL (alU pf) (q ++ s) (ks.take (k + 1)) ++ walkL (alU pf) (q ++ s) (ks.drop (k + 1)) := by rw [← walkL_app, List.take_append_drop]
          rw [e0, hnx, List.append_assoc, List.getElem?_append_right (by omega), List.getElem?_append_left (by omega)]
          have e1 : (ownW (q ++ s) rs).length + (walkL (alU pf) (q ++ s) (ks.take k)).length + j - (ownW (q ++ s) rs).length - (walkL (alU pf) (q ++ s) (ks.take k)).length = j := by omega
          rw [e1, List.getElem?_eq_getElem hj]; rfl
        rw [hnx, List.length_append] at hle
        have hin := ranges_post (p := p166u) hct (c := b166u_0v_0) (gi := 166) (caps := [.ptr 6 0 0 0, .ptr 5 0 0 0, .ptr 7 0 0 0]) (args := args166)
          (s0 := s166u_0v_0 pf q s rn rt (rows rs) kn kt (encL ks) r b (q ++ s) ks.length k ks[k].lab none false (rows ks[k].rows) none false (encL ks[k].kids))
          (h0 := boxU pf (q ++ s) ks[k].lab none false (rows ks[k].rows) none false (encL ks[k].kids)) (ids := [6, 5, 7]) (by kernel_rfl) (walkT (alU pf) (q ++ s) ks[k]) encE rfl (by kernel_rfl)
          (by have := sq166u_ok pf (q ++ s) ks[k].lab none false ks[k].rows none false ks[k].kids; rw [Nd.eta] at this; exact this)
          (fun u' b' hw' => ⟨_, _, f166u pf d (q ++ s) ks[k].lab none false ks[k].rows none false ks[k].kids (n - ks[k].lab.length) hkid (by rw [List.length_append]; omega) g5 g3 (.inl (by simp)) u' b' (by rw [Nd.eta]; exact hw'), rfl⟩)
          (fun (r : List (List V)) => g166u_0v_0 pf q s rn rt (rows rs) kn kt (encL ks) r b (q ++ s) ks.length k)
          (fun (l : List Ent) r => ∃ j, l = (walkT (alU pf) (q ++ s) ks[k]).drop j ∧ j ≤ (walkT (alU pf) (q ++ s) ks[k]).length ∧ At u b m ((ownW (q ++ s) rs).length + (walkL (alU pf) (q ++ s) (ks.take k)).length + j) r)
          (fun y => (∃ r', At u b m ((ownW (q ++ s) rs).length + (walkL (alU pf) (q ++ s) (ks.take (k + 1))).length) r' ∧ p166u.ld b166u_0v (p166u.lkx b166u_0v 0 y) = some (R.s (s166u_0v pf q s rn rt (rows rs) kn kt (encL ks) r' b (q ++ s) ks.length ((k + 1 : Nat) : Int)))) ∨
            (∃ x : Ex × Fr × Hp, x.1 ≠ .nrm ∧ p166u.fd (p166u.fkx 0 x) = some (.out [] [.box [.c (.str q)], .box [.c (.str s), .c (.sl 5 rn rt (rows rs)), .c (.sl 3 kn kt (encL ks))], .box [.fn 88 [.fp [.str pf]]], .yo [] b]) ∧ p166u.ld b166u_0v (p166u.lkx b166u_0v 0 y) = some (R.x x)))
          (by
            rintro ⟨p, prs⟩ l r ⟨j, hj, hjl, hat⟩
            have hj2 : j < (walkT (alU pf) (q ++ s) ks[k]).length := by
              rcases Nat.lt_or_ge j (walkT (alU pf) (q ++ s) ks[k]).length with h | h
              · exact h
              · rw [List.drop_of_length_le h] at hj; cases hj
            rw [List.drop_eq_getElem_cons hj2] at hj
            simp only [List.cons.injEq] at hj
            obtain ⟨hj3, rfl⟩ := hj
            have hee := hesk j hj2
            rw [← hj3] at hee
            obtain ⟨hc1, hc2⟩ := List.getElem?_eq_some_iff.1 hee
            obtain ⟨_, hr1, hr2, hr3⟩ := hat.next hu hm0 hm1 hc1
            rw [hc2] at hr1
            have hrd : p166u.rds b166u_0v_0 (g166u_0v_0 pf q s rn rt (rows rs) kn kt (encL ks) r b (q ++ s) ks.length k) (p166u.rts b166u_0v_0 (encE (p, prs)) (g166u_0v_0 pf q s rn rt (rows rs) kn kt (encL ks) r b (q ++ s) ks.length k)) =
                (if (!yoAns r b) = true then some (R.x (x166u_0v_0x0 pf q s rn rt (rows rs) kn kt (encL ks) r b (q ++ s) ks.length k p (rows prs) none)) else some (R.s (g166u_0v_0 pf q s rn rt (rows rs) kn kt (encL ks) r.tail b (q ++ s) ks.length k))) := by
              refine (congrArg _ (t166u_0v_0 pf q s rn rt (rows rs) kn kt (encL ks) r b (q ++ s) ks.length k p (rows prs))).trans ?_
              have hyo : yoHd r [V.agg [V.c (C.str p), V.c (C.sl 5 none false (rows prs))]] = true := by rw [hr1]; exact eqb_encE p prs
              rw [rd_chk', if_pos hyo, rd_br, rd_leaf, rd_leaf]
            rcases hr3 with ⟨h1, h2⟩ | ⟨h1, h2, h3⟩
            · left
              refine ⟨r.tail, ⟨j + 1, rfl, by omega, ?_⟩, ?_⟩
              · rw [← Nat.add_assoc]; exact h2
              · rw [hrd, h1]; rfl
            · right
              refine ⟨x166u_0v_0x0 pf q s rn rt (rows rs) kn kt (encL ks) r b (q ++ s) ks.length k p (rows prs) none, by simp, .inr ⟨x166u_0vx0 pf q s rn rt (rows rs) kn kt (encL ks) r b (q ++ s) ks.length k p (rows prs) none, by simp, ?_, ?_⟩, ?_⟩
              · rw [k166u_0vx0, fd_leaf, h2]
              · rw [k166u_0v_0x0, ld_leaf]
              · rw [hrd, h1]; rfl)
          (by
            rintro r ⟨j, hj, hjl, hat⟩
            have hj2 : j = (walkT (alU pf) (q ++ s) ks[k]).length := by
              rcases Nat.lt_or_ge j (walkT (alU pf) (q ++ s) ks[k]).length with h | h
              · rw [List.drop_eq_getElem_cons h] at hj; cases hj
              · omega
            subst hj2
            left
            refine ⟨r, by rw [hnx, List.length_append, ← Nat.add_assoc]; exact hat, ?_⟩
            show p166u.ld b166u_0v (p166u.lkx b166u_0v 0 (x166u_0v_0n pf q s rn rt (rows rs) kn kt (encL ks) r b (q ++ s) ks.length k)) = _
            rw [k166u_0v_0n, ld_leaf, wrap_succ (by omega)])
          r rfl ⟨0, by simp, Nat.zero_le _, by simpa using hat⟩
        rw [t166u_0v]
        simp only [nd_ok, nd_lab, nd_rows, nd_kids, encL_length, isL_enc, decL_enc, wrap_hd, hd_pos, ld_br, ld_chk', ld_leaf, fd_br, fd_chk', fd_leaf, decide_true, decide_eq_true_eq, if_true, Int.toNat_natCast, Int.natCast_nonneg, Int.ofNat_lt, Int.ofNat_le, Bool.false_eq_true, if_false, bne_iff_ne, beq_iff_eq, ne_eq, not_true_eq_false, not_false_eq_true, Bool.not_eq_true', decide_eq_false_iff_not, reduceCtorEq, rows_length, pcs_length, er_ok, er_ok', ep_ok, ep_ok', dr_er, dp_ep, isRows_rows, isPcs_pcs, toRows_rows, toPcs_pcs, rows_take, rows_drop, pcs_take, pcs_drop, rows_append, pcs_append, ints_length, isInts_ints, toInts_ints, ei_i, ei_ok, mk_headD, ints_take, ints_drop, ints_append, ints_snoc, ints_snoc', List.take_length, Nat.zero_add, Nat.le_refl, er_a, er_b, er_k, er_n, er_s, er_v, ep_a, ep_b, ep_hk, ep_hn, ep_hs, ep_wk, ep_wn, ep_ws, hk2, encL_getD hk2]
        obtain ⟨y, hy, hR⟩ := hin
        rcases hy with ⟨r', h1, h2⟩ | ⟨x, h1, h2, h3⟩
        · exact .inl ⟨r', h1, ld_rpost hct (by kernel_rfl) rfl ⟨y, h2, hR⟩⟩
        · exact .inr ⟨x, h1, h2, ld_rpost hct (by kernel_rfl) rfl ⟨y, h3, hR⟩⟩
      · intro r hat
        rw [List.take_length, ← hesl] at hat
        obtain ⟨rfl, rfl⟩ := hat.end_ hu hm0 rfl
        rw [t166u_0v]
        exact ⟨x166u_0vx1 pf q s rn rt (rows rs) kn kt (encL ks) [] false (q ++ s) ks.length ks.length, by simp, by rw [k166u_0vx1, fd_leaf], by simp only [nd_ok, nd_lab, nd_rows, nd_kids, encL_length, isL_enc, decL_enc, wrap_hd, hd_pos, ld_br, ld_chk', ld_leaf, fd_br, fd_chk', fd_leaf, decide_true, decide_eq_true_eq, if_true, Int.toNat_natCast, Int.natCast_nonneg, Int.ofNat_lt, Int.ofNat_le, Bool.false_eq_true, if_false, bne_iff_ne, beq_iff_eq, ne_eq, not_true_eq_false, not_false_eq_true, Bool.not_eq_true', decide_eq_false_iff_not, reduceCtorEq, rows_length, pcs_length, er_ok, er_ok', ep_ok, ep_ok', dr_er, dp_ep, isRows_rows, isPcs_pcs, toRows_rows, toPcs_pcs, rows_take, rows_drop, pcs_take, pcs_drop, rows_append, pcs_append, ints_length, isInts_ints, toInts_ints, ei_i, ei_ok, mk_headD, ints_take, ints_drop, ints_append, ints_snoc, ints_snoc', List.take_length, Nat.zero_add, Nat.le_refl, er_a, er_b, er_k, er_n, er_s, er_v, ep_a, ep_b, ep_hk, ep_hn, ep_hs, ep_wk, ep_wn, ep_ws, Int.lt_irrefl]⟩
    have hrl2 : rs.length < 4294967296 := by omega
    simp only [nd_ok, nd_lab, nd_rows, nd_kids, encL_length, isL_enc, decL_enc, wrap_hd, hd_pos, ld_br, ld_chk', ld_leaf, fd_br, fd_chk', fd_leaf, decide_true, decide_eq_true_eq, if_true, Int.toNat_natCast, Int.natCast_nonneg, Int.ofNat_lt, Int.ofNat_le, Bool.false_eq_true, if_false, bne_iff_ne, beq_iff_eq, ne_eq, not_true_eq_false, not_false_eq_true, Bool.not_eq_true', decide_eq_false_iff_not, reduceCtorEq, rows_length, pcs_length, er_ok, er_ok', ep_ok, ep_ok', dr_er, dp_ep, isRows_rows, isPcs_pcs, toRows_rows, toPcs_pcs, rows_take, rows_drop, pcs_take, pcs_drop, rows_append, pcs_append, ints_length, isInts_ints, toInts_ints, ei_i, ei_ok, mk_headD, ints_take, ints_drop, ints_append, ints_snoc, ints_snoc', List.take_length, Nat.zero_add, Nat.le_refl, er_a, er_b, er_k, er_n, er_s, er_v, ep_a, ep_b, ep_hk, ep_hn, ep_hs, ep_wk, ep_wn, ep_ws, hql, hrl2, cal, Bool.not_true, Bool.false_eq_true, if_false]
    by_cases c : rs = []
    · subst c
      rw [if_neg (by simp)]
      exact key u at0
    · have c0 : (0 : Int) < rs.length := by have := List.length_pos_iff.2 c; omega
      obtain ⟨r0, rr, rfl⟩ : ∃ a r, rs = a :: r := by cases rs with | nil => exact absurd rfl c | cons a r => exact ⟨a, r, rfl⟩
      have ho : ownW (q ++ s) (r0 :: rr) = [(q ++ s, r0 :: rr)] := rfl
      have h0 : 0 < es.length := by rw [hesl, ho]; simp; omega
      have he0 : es[0] = encE (q ++ s, r0 :: rr) := by simp only [← hes, ho]; rfl
      obtain ⟨_, hr1, hr2, hr3⟩ := at0.next hu hm0 hm1 h0
      rw [he0] at hr1
      have hyo : yoHd u [V.agg [V.c (C.str (q ++ s)), V.c (C.sl 5 none false (rows (r0 :: rr)))]] = true := by rw [hr1]; exact eqb_encE _ _
      rw [if_pos c0]
      simp only [hn', hyo, if_true]
      rcases hr3 with ⟨h1, h2⟩ | ⟨h1, h2, h3⟩
      · rw [if_neg (by simp [h1])]
        exact key u.tail (by rw [ho]; exact h2)
      · rw [if_pos (by simp [h1]), h2]
end Go.Proofs.YtgaabjmbnomimaaDoor
namespace Go.Proofs.YtgaabjmbnomimaaDoor
open Go Go.Ev
-- cse
noncomputable abbrev p166b : Par := par E sh (ctOf [(86, s86), (68, s68), (134, s134b)]) 166 4 4
abbrev s166b_0 (pf : Bys) (pt : Bys) (q : Bys) (s : Bys) (rn : OBo) (rt : Bool) (xs : LLC) (kn : OBo) (kt : Bool) (ys : LLC) (r : List (List V)) (b : Bool) (s5 : Bys) (i33 : Int) (i34 : Int) : Fr × Hp := ([(3, V.ptr 2 0 0 0), (4, V.ptr 4 0 0 0), (5, V.c (C.str s5)), (32, V.c (C.sl 3 kn kt ys)), (33, V.c (C.int IntKind.i64 i33)), (34, V.c (C.int IntKind.i64 i34))], [O.box [V.c (C.str q)], O.box [V.c (C.str s), V.c (C.sl 5 rn rt xs), V.c (C.sl 3 kn kt ys)], O.box [V.fn 86 [V.fp [C.str pf], V.fp [C.str pt]]], O.yo r.tail b, O.box [V.yl 3]])
abbrev s166b_0v (pf : Bys) (pt : Bys) (q : Bys) (s : Bys) (rn : OBo) (rt : Bool) (xs : LLC) (kn : OBo) (kt : Bool) (ys : LLC) (r : List (List V)) (b : Bool) (s5 : Bys) (i33 : Int) (i34 : Int) : Fr × Hp := ([(3, V.ptr 2 0 0 0), (4, V.ptr 4 0 0 0), (5, V.c (C.str s5)), (32, V.c (C.sl 3 kn kt ys)), (33, V.c (C.int IntKind.i64 i33)), (34, V.c (C.int IntKind.i64 i34))], [O.box [V.c (C.str q)], O.box [V.c (C.str s), V.c (C.sl 5 rn rt xs), V.c (C.sl 3 kn kt ys)], O.box [V.fn 86 [V.fp [C.str pf], V.fp [C.str pt]]], O.yo r b, O.box [V.yl 3]])
noncomputable abbrev b166b_0v : Code := loopAt (codeOf E (166)) 0
abbrev s166b_0v_0 (pf : Bys) (pt : Bys) (q : Bys) (s : Bys) (rn : OBo) (rt : Bool) (xs : LLC) (kn : OBo) (kt : Bool) (ys : LLC) (r : List (List V)) (b : Bool) (s5 : Bys) (i33 : Int) (i34 : Int) (sh5 : Bys) (nlh5 : OBo) (th5 : Bool) (xsh5 : LLC) (nlh5_1 : OBo) (th5_1 : Bool) (xsh5_1 : LLC) : Fr × Hp := ([(3, V.ptr 2 0 0 0), (4, V.ptr 4 0 0 0), (5, V.c (C.str s5)), (32, V.c (C.sl 3 kn kt ys)), (33, V.c (C.int IntKind.i64 i33)), (34, V.c (C.int IntKind.i64 i34)), (41, V.fn 166 [V.ptr 6 0 0 0, V.ptr 5 0 0 0, V.ptr 7 0 0 0])], [O.box [V.c (C.str q)], O.box [V.c (C.str s), V.c (C.sl 5 rn rt xs), V.c (C.sl 3 kn kt ys)], O.box [V.fn 86 [V.fp [C.str pf], V.fp [C.str pt]]], O.yo r b, O.box [V.yl 3], O.box [V.c (C.str sh5), V.c (C.sl 5 nlh5 th5 xsh5), V.c (C.sl 3 nlh5_1 th5_1 xsh5_1)], O.box [V.c (C.str s5)], O.box [V.fn 86 [V.fp [C.str pf], V.fp [C.str pt]]]])
noncomputable abbrev b166b_0v_0 : Code := loopAt b166b_0v 0
abbrev g166b_0v_0 (pf : Bys) (pt : Bys) (q : Bys) (s : Bys) (rn : OBo) (rt : Bool) (xs : LLC) (kn : OBo) (kt : Bool) (ys : LLC) (r : List (List V)) (b : Bool) (s5 : Bys) (i33 : Int) (i34 : Int) : Fr × Hp := ([(3, V.ptr 2 0 0 0), (4, V.ptr 4 0 0 0), (5, V.c (C.str s5)), (32, V.c (C.sl 3 kn kt ys)), (33, V.c (C.int IntKind.i64 i33)), (34, V.c (C.int IntKind.i64 i34)), (41, V.fn 166 [V.ptr 6 0 0 0, V.ptr 5 0 0 0, V.ptr 7 0 0 0])], [O.box [V.c (C.str q)], O.box [V.c (C.str s), V.c (C.sl 5 rn rt xs), V.c (C.sl 3 kn kt ys)], O.box [V.fn 86 [V.fp [C.str pf], V.fp [C.str pt]]], O.yo r b, O.box [V.yl 3], O.gone, O.gone, O.gone])
abbrev x166b_0v_0x0 (pf : Bys) (pt : Bys) (q : Bys) (s : Bys) (rn : OBo) (rt : Bool) (xs : LLC) (kn : OBo) (kt : Bool) (ys : LLC) (r : List (List V)) (b : Bool) (s5 : Bys) (i33 : Int) (i34 : Int) (p : Bys) (zs : LLC) (nlh8 : OBo) : Ex × Fr × Hp := (Ex.ret, [(3, V.ptr 2 0 0 0), (4, V.ptr 4 0 0 0), (5, V.c (C.str s5)), (32, V.c (C.sl 3 kn kt ys)), (33, V.c (C.int IntKind.i64 i33)), (34, V.c (C.int IntKind.i64 i34)), (41, V.fn 166 [V.ptr 6 0 0 0, V.ptr 5 0 0 0, V.ptr 7 0 0 0])], [O.box [V.c (C.str q)], O.box [V.c (C.str s), V.c (C.sl 5 rn rt xs), V.c (C.sl 3 kn kt ys)], O.box [V.fn 86 [V.fp [C.str pf], V.fp [C.str pt]]], O.yo r.tail b, O.box [V.yl 3], O.gone, O.gone, O.gone, O.box [V.c (C.str p), V.c (C.sl 5 nlh8 false zs)]])
abbrev x166b_0v_0n (pf : Bys) (pt : Bys) (q : Bys) (s : Bys) (rn : OBo) (rt : Bool) (xs : LLC) (kn : OBo) (kt : Bool) (ys : LLC) (r : List (List V)) (b : Bool) (s5 : Bys) (i33 : Int) (i34 : Int) : Ex × Fr × Hp := (Ex.nrm, [(3, V.ptr 2 0 0 0), (4, V.ptr 4 0 0 0), (5, V.c (C.str s5)), (32, V.c (C.sl 3 kn kt ys)), (33, V.c (C.int IntKind.i64 i33)), (34, V.c (C.int IntKind.i64 i34)), (41, V.fn 166 [V.ptr 6 0 0 0, V.ptr 5 0 0 0, V.ptr 7 0 0 0])], [O.box [V.c (C.str q)], O.box [V.c (C.str s), V.c (C.sl 5 rn rt xs), V.c (C.sl 3 kn kt ys)], O.box [V.fn 86 [V.fp [C.str pf], V.fp [C.str pt]]], O.yo r b, O.box [V.yl 3], O.gone, O.gone, O.gone])
abbrev x166b_0vx0 (pf : Bys) (pt : Bys) (q : Bys) (s : Bys) (rn : OBo) (rt : Bool) (xs : LLC) (kn : OBo) (kt : Bool) (ys : LLC) (r : List (List V)) (b : Bool) (s5 : Bys) (i33 : Int) (i34 : Int) (p : Bys) (zs : LLC) (nlh8 : OBo) : Ex × Fr × Hp := (Ex.ret, [(3, V.ptr 2 0 0 0), (4, V.ptr 4 0 0 0), (5, V.c (C.str s5)), (32, V.c (C.sl 3 kn kt ys)), (33, V.c (C.int IntKind.i64 i33)), (34, V.c (C.int IntKind.i64 i34)), (41, V.fn 166 [V.ptr 6 0 0 0, V.ptr 5 0 0 0, V.ptr 7 0 0 0])], [O.box [V.c (C.str q)], O.box [V.c (C.str s), V.c (C.sl 5 rn rt xs), V.c (C.sl 3 kn kt ys)], O.box [V.fn 86 [V.fp [C.str pf], V.fp [C.str pt]]], O.yo r.tail b, O.box [V.yl 3], O.gone, O.gone, O.gone, O.box [V.c (C.str p), V.c (C.sl 5 nlh8 false zs)]])
abbrev x166b_0vx1 (pf : Bys) (pt : Bys) (q : Bys) (s : Bys) (rn : OBo) (rt : Bool) (xs : LLC) (kn : OBo) (kt : Bool) (ys : LLC) (r : List (List V)) (b : Bool) (s5 : Bys) (i33 : Int) (i34 : Int) : Ex × Fr × Hp := (Ex.exit 0, [(3, V.ptr 2 0 0 0), (4, V.ptr 4 0 0 0), (5, V.c (C.str s5)), (32, V.c (C.sl 3 kn kt ys)), (33, V.c (C.int IntKind.i64 i33)), (34, V.c (C.int IntKind.i64 i34)), (35, V.c (C.bool false))], [O.box [V.c (C.str q)], O.box [V.c (C.str s), V.c (C.sl 5 rn rt xs), V.c (C.sl 3 kn kt ys)], O.box [V.fn 86 [V.fp [C.str pf], V.fp [C.str pt]]], O.yo r b, O.box [V.yl 3]])
theorem t166b_0v_0 (pf : Bys) (pt : Bys) (q : Bys) (s : Bys) (rn : OBo) (rt : Bool) (xs : LLC) (kn : OBo) (kt : Bool) (ys : LLC) (r : List (List V)) (b : Bool) (s5 : Bys) (i33 : Int) (i34 : Int) (p : Bys) (zs : LLC) : p166b.rts b166b_0v_0 ([V.agg [V.c (C.str p), V.c (C.sl 5 none false zs)]]) (g166b_0v_0 pf pt q s rn rt xs kn kt ys r b s5 i33 i34) = (Tr.chk (yoHd r [V.agg [V.c (C.str p), V.c (C.sl 5 none false zs)]]) (Tr.br (!yoAns r b) (Tr.leaf (R.x (x166b_0v_0x0 pf pt q s rn rt xs kn kt ys r b s5 i33 i34 p zs (none)))) (Tr.leaf (R.s (g166b_0v_0 pf pt q s rn rt xs kn kt ys (r.tail) b s5 i33 i34))))) := by kernel_rfl
theorem k166b_0v_0n (pf : Bys) (pt : Bys) (q : Bys) (s : Bys) (rn : OBo) (rt : Bool) (xs : LLC) (kn : OBo) (kt : Bool) (ys : LLC) (r : List (List V)) (b : Bool) (s5 : Bys) (i33 : Int) (i34 : Int) : p166b.lkx b166b_0v 0 (x166b_0v_0n pf pt q s rn rt xs kn kt ys r b s5 i33 i34) = (Tr.leaf (R.s (s166b_0v pf pt q s rn rt xs kn kt ys r b s5 i33 (IntKind.i64.wrap (i34 + 1))))) := by kernel_rfl
theorem k166b_0v_0x0 (pf : Bys) (pt : Bys) (q : Bys) (s : Bys) (rn : OBo) (rt : Bool) (xs : LLC) (kn : OBo) (kt : Bool) (ys : LLC) (r : List (List V)) (b : Bool) (s5 : Bys) (i33 : Int) (i34 : Int) (p : Bys) (zs : LLC) (nlh8 : OBo) : p166b.lkx b166b_0v 0 (x166b_0v_0x0 pf pt q s rn rt xs kn kt ys r b s5 i33 i34 p zs nlh8) = (Tr.leaf (R.x (x166b_0vx0 pf pt q s rn rt xs kn kt ys r b s5 i33 i34 p zs nlh8))) := by kernel_rfl
theorem t166b_0v (pf : Bys) (pt : Bys) (q : Bys) (s : Bys) (rn : OBo) (rt : Bool) (xs : LLC) (kn : OBo) (kt : Bool) (ys : LLC) (r : List (List V)) (b : Bool) (s5 : Bys) (i33 : Int) (i34 : Int) : p166b.lts b166b_0v (s166b_0v pf pt q s rn rt xs kn kt ys r b s5 i33 i34) = (Tr.br (decide (i34 < i33)) (Tr.chk (decide (0 ≤ i34)) (Tr.chk true (Tr.chk (decide (i34.toNat < ys.length)) (Tr.chk (shOk [Sk.str, Sk.sl 5, Sk.sl 3] (ys.getD i34.toNat [])) (Tr.rs 0 (s166b_0v_0 pf pt q s rn rt xs kn kt ys r b s5 i33 i34 (((ys.getD i34.toNat []).headD C.pnil).st) (none) false (((ys.getD i34.toNat []).tail.headD C.pnil).xs) (none) false (((ys.getD i34.toNat []).tail.tail.headD C.pnil).xs))))))) (Tr.leaf (R.x (x166b_0vx1 pf pt q s rn rt xs kn kt ys r b s5 i33 i34)))) := by kernel_rfl
theorem k166b_0vx0 (pf : Bys) (pt : Bys) (q : Bys) (s : Bys) (rn : OBo) (rt : Bool) (xs : LLC) (kn : OBo) (kt : Bool) (ys : LLC) (r : List (List V)) (b : Bool) (s5 : Bys) (i33 : Int) (i34 : Int) (p : Bys) (zs : LLC) (nlh8 : OBo) : p166b.fkx 0 (x166b_0vx0 pf pt q s rn rt xs kn kt ys r b s5 i33 i34 p zs nlh8) = (Tr.leaf (R.out [] [O.box [V.c (C.str q)], O.box [V.c (C.str s), V.c (C.sl 5 rn rt xs), V.c (C.sl 3 kn kt ys)], O.box [V.fn 86 [V.fp [C.str pf], V.fp [C.str pt]]], O.yo r.tail b])) := by kernel_rfl
theorem k166b_0vx1 (pf : Bys) (pt : Bys) (q : Bys) (s : Bys) (rn : OBo) (rt : Bool) (xs : LLC) (kn : OBo) (kt : Bool) (ys : LLC) (r : List (List V)) (b : Bool) (s5 : Bys) (i33 : Int) (i34 : Int) : p166b.fkx 0 (x166b_0vx1 pf pt q s rn rt xs kn kt ys r b s5 i33 i34) = (Tr.leaf (R.out [] [O.box [V.c (C.str q)], O.box [V.c (C.str s), V.c (C.sl 5 rn rt xs), V.c (C.sl 3 kn kt ys)], O.box [V.fn 86 [V.fp [C.str pf], V.fp [C.str pt]]], O.yo r b])) := by kernel_rfl
theorem t166b (pf : Bys) (pt : Bys) (q : Bys) (s : Bys) (rn : OBo) (rt : Bool) (xs : LLC) (kn : OBo) (kt : Bool) (ys : LLC) (r : List (List V)) (b : Bool) : p166b.ft ([V.yl 3, V.ptr 0 0 0 0, V.ptr 1 0 0 0, V.ptr 2 0 0 0]) ([O.box [V.c (C.str q)], O.box [V.c (C.str s), V.c (C.sl 5 rn rt xs), V.c (C.sl 3 kn kt ys)], O.box [V.fn 86 [V.fp [C.str pf], V.fp [C.str pt]]], O.yo r b]) = (Tr.chk (decide (q.length + s.length < 4294967296)) (Tr.br (!alB pf pt (q ++ s)) (Tr.leaf (R.out [] [O.box [V.c (C.str q)], O.box [V.c (C.str s), V.c (C.sl 5 rn rt xs), V.c (C.sl 3 kn kt ys)], O.box [V.fn 86 [V.fp [C.str pf], V.fp [C.str pt]]], O.yo r b])) (Tr.br (decide (0 < (↑xs.length : Int))) (Tr.chk (decide (xs.length < 4294967296)) (Tr.chk (decide (rn ≠ some true ∨ xs = [])) (Tr.chk (yoHd r [V.agg [V.c (C.str (q ++ s)), V.c (C.sl 5 none false xs)]]) (Tr.br (!yoAns r b) (Tr.leaf (R.out [] [O.box [V.c (C.str q)], O.box [V.c (C.str s), V.c (C.sl 5 rn rt xs), V.c (C.sl 3 kn kt ys)], O.box [V.fn 86 [V.fp [C.str pf], V.fp [C.str pt]]], O.yo r.tail b])) (Tr.ls 0 (s166b_0 pf pt q s rn rt xs kn kt ys r b (q ++ s) ((↑ys.length : Int)) (0))))))) (Tr.ls 0 (s166b_0v pf pt q s rn rt xs kn kt ys r b (q ++ s) ((↑ys.length : Int)) (0)))))) := by kernel_rfl
noncomputable abbrev p81u : Par := par E sh (ctOf [(28, s28), (134, s134u), (89, s89)]) 81 3 0
abbrev s81u_0 (pf : Bys) (s : Bys) (rn : OBo) (rt : Bool) (xs : LLC) (kn : OBo) (kt : Bool) (ys : LLC) (nl6 : OBo) (t6 : Bool) (xs6 : LLC) (ys1 : LLC) (nh2 : Nat) (sh4 : Bys) : Fr × Hp := ([(5, V.ptr 0 0 0 0), (6, V.c (C.sl 2 nl6 t6 xs6)), (7, V.ptr 2 0 0 0), (14, V.fn 166 [V.ptr 4 0 0 0, V.ptr 3 0 0 0, V.ptr 5 0 0 0])], [O.box [V.fn 89 [V.fp [C.str pf]]], O.mem 2 0 ys1, O.box [V.buf 1 0 0 nh2], O.box [V.c (C.str s), V.c (C.sl 5 rn rt xs), V.c (C.sl 3 kn kt ys)], O.box [V.c (C.str sh4)], O.box [V.fn 88 [V.fp [C.str pf]]]])
noncomputable abbrev b81u_0 : Code := loopAt (codeOf E (81)) 0
abbrev g81u_0 (pf : Bys) (nl6 : OBo) (t6 : Bool) (xs6 : LLC) (ys1 : LLC) (nh2 : Nat) : Fr × Hp := ([(5, V.ptr 0 0 0 0), (6, V.c (C.sl 2 nl6 t6 xs6)), (7, V.ptr 2 0 0 0), (14, V.fn 166 [V.ptr 4 0 0 0, V.ptr 3 0 0 0, V.ptr 5 0 0 0])], [O.box [V.fn 89 [V.fp [C.str pf]]], O.mem 2 0 ys1, O.box [V.buf 1 0 0 nh2], O.gone, O.gone, O.gone])
abbrev x81u_0n (pf : Bys) (nl6 : OBo) (t6 : Bool) (xs6 : LLC) (ys1 : LLC) (nh2 : Nat) : Ex × Fr × Hp := (Ex.nrm, [(5, V.ptr 0 0 0 0), (6, V.c (C.sl 2 nl6 t6 xs6)), (7, V.ptr 2 0 0 0), (14, V.fn 166 [V.ptr 4 0 0 0, V.ptr 3 0 0 0, V.ptr 5 0 0 0])], [O.box [V.fn 89 [V.fp [C.str pf]]], O.mem 2 0 ys1, O.box [V.buf 1 0 0 nh2], O.gone, O.gone, O.gone])
theorem t81u_0 (pf : Bys) (nl6 : OBo) (t6 : Bool) (xs6 : LLC) (ys1 : LLC) (nh2 : Nat) (p : Bys) (zs : LLC) : p81u.rts b81u_0 ([V.agg [V.c (C.str p), V.c (C.sl 5 none false zs)]]) (g81u_0 pf nl6 t6 xs6 ys1 nh2) = (Tr.br (begins p pf) (Tr.chk true (Tr.chk true (Tr.chk (decide (nh2 + 1 < 4294967296)) (Tr.chk true (Tr.leaf (R.s (g81u_0 pf nl6 t6 xs6 (List.take nh2 ys1 ++ [[C.str p, C.sl 5 none false zs]]) (nh2 + 1)))))))) (Tr.leaf (R.s (g81u_0 pf nl6 t6 xs6 ys1 nh2)))) := by kernel_rfl
theorem k81u_0n (pf : Bys) (nl6 : OBo) (t6 : Bool) (xs6 : LLC) (ys1 : LLC) (nh2 : Nat) : p81u.fkx 0 (x81u_0n pf nl6 t6 xs6 ys1 nh2) = (Tr.leaf (R.out [V.c (C.sl 2 none false (List.take nh2 ys1))] [])) := by kernel_rfl
theorem t81u (pf : Bys) (s : Bys) (rn : OBo) (rt : Bool) (xs : LLC) (kn : OBo) (kt : Bool) (ys : LLC) : p81u.ft ([V.agg [V.c (C.str s), V.c (C.sl 5 rn rt xs), V.c (C.sl 3 kn kt ys)], V.fn 88 [V.fp [C.str pf]], V.fn 89 [V.fp [C.str pf]]]) ([]) = (Tr.chk (isRows xs) (Tr.chk (isL ys) (Tr.br (checkT (Nd.node s (toRows xs) (decL ys)) != 0) (Tr.leaf (R.out [V.c (C.sl 2 none false [])] [])) (Tr.rs 0 (s81u_0 pf s rn rt xs kn kt ys (some true) true ([]) ([]) (0) ([])))))) := by kernel_rfl
noncomputable abbrev p81b : Par := par E sh (ctOf [(28, s28), (134, s134b), (87, s87)]) 81 3 0
abbrev s81b_0 (pf : Bys) (pt : Bys) (s : Bys) (rn : OBo) (rt : Bool) (xs : LLC) (kn : OBo) (kt : Bool) (ys : LLC) (nl6 : OBo) (t6 : Bool) (xs6 : LLC) (ys1 : LLC) (nh2 : Nat) (sh4 : Bys) : Fr × Hp := ([(5, V.ptr 0 0 0 0), (6, V.c (C.sl 2 nl6 t6 xs6)), (7, V.ptr 2 0 0 0), (14, V.fn 166 [V.ptr 4 0 0 0, V.ptr 3 0 0 0, V.ptr 5 0 0 0])], [O.box [V.fn 87 [V.fp [C.str pf], V.fp [C.str pt]]], O.mem 2 0 ys1, O.box [V.buf 1 0 0 nh2], O.box [V.c (C.str s), V.c (C.sl 5 rn rt xs), V.c (C.sl 3 kn kt ys)], O.box [V.c (C.str sh4)], O.box [V.fn 86 [V.fp [C.str pf], V.fp [C.str pt]]]])
noncomputable abbrev b81b_0 : Code := loopAt (codeOf E (81)) 0
abbrev g81b_0 (pf : Bys) (pt : Bys) (nl6 : OBo) (t6 : Bool) (xs6 : LLC) (ys1 : LLC) (nh2 : Nat) : Fr × Hp := ([(5, V.ptr 0 0 0 0), (6, V.c (C.sl 2 nl6 t6 xs6)), (7, V.ptr 2 0 0 0), (14, V.fn 166 [V.ptr 4 0 0 0, V.ptr 3 0 0 0, V.ptr 5 0 0 0])], [O.box [V.fn 87 [V.fp [C.str pf], V.fp [C.str pt]]], O.mem 2 0 ys1, O.box [V.buf 1 0 0 nh2], O.gone, O.gone, O.gone])
abbrev x81b_0n (pf : Bys) (pt : Bys) (nl6 : OBo) (t6 : Bool) (xs6 : LLC) (ys1 : LLC) (nh2 : Nat) : Ex × Fr × Hp := (Ex.nrm, [(5, V.ptr 0 0 0 0), (6, V.c (C.sl 2 nl6 t6 xs6)), (7, V.ptr 2 0 0 0), (14, V.fn 166 [V.ptr 4 0 0 0, V.ptr 3 0 0 0, V.ptr 5 0 0 0])], [O.box [V.fn 87 [V.fp [C.str pf], V.fp [C.str pt]]], O.mem 2 0 ys1, O.box [V.buf 1 0 0 nh2], O.gone, O.gone, O.gone])
theorem t81b_0 (pf : Bys) (pt : Bys) (nl6 : OBo) (t6 : Bool) (xs6 : LLC) (ys1 : LLC) (nh2 : Nat) (p : Bys) (zs : LLC) : p81b.rts b81b_0 ([V.agg [V.c (C.str p), V.c (C.sl 5 none false zs)]]) (g81b_0 pf pt nl6 t6 xs6 ys1 nh2) = (Tr.br (wB pf pt p) (Tr.chk true (Tr.chk true (Tr.chk (decide (nh2 + 1 < 4294967296)) (Tr.chk true (Tr.leaf (R.s (g81b_0 pf pt nl6 t6 xs6 (List.take nh2 ys1 ++ [[C.str p, C.sl 5 none false zs]]) (nh2 + 1)))))))) (Tr.leaf (R.s (g81b_0 pf pt nl6 t6 xs6 ys1 nh2)))) := by kernel_rfl
theorem k81b_0n (pf : Bys) (pt : Bys) (nl6 : OBo) (t6 : Bool) (xs6 : LLC) (ys1 : LLC) (nh2 : Nat) : p81b.fkx 0 (x81b_0n pf pt nl6 t6 xs6 ys1 nh2) = (Tr.leaf (R.out [V.c (C.sl 2 none false (List.take nh2 ys1))] [])) := by kernel_rfl
theorem t81b (pf : Bys) (pt : Bys) (s : Bys) (rn : OBo) (rt : Bool) (xs : LLC) (kn : OBo) (kt : Bool) (ys : LLC) : p81b.ft ([V.agg [V.c (C.str s), V.c (C.sl 5 rn rt xs), V.c (C.sl 3 kn kt ys)], V.fn 86 [V.fp [C.str pf], V.fp [C.str pt]], V.fn 87 [V.fp [C.str pf], V.fp [C.str pt]]]) ([]) = (Tr.chk (isRows xs) (Tr.chk (isL ys) (Tr.br (checkT (Nd.node s (toRows xs) (decL ys)) != 0) (Tr.leaf (R.out [V.c (C.sl 2 none false [])] [])) (Tr.rs 0 (s81b_0 pf pt s rn rt xs kn kt ys (some true) true ([]) ([]) (0) ([])))))) := by kernel_rfl
def s81u : CSpec := fun a h => match a, h with
  | [.agg [.c (.str s), .c (.sl 5 rn rt xs), .c (.sl 3 kn kt ys)], .fn 88 [.fp [.str pf]], .fn 89 [.fp [.str pg]]], [] => some ([decide (pf = pg), isRows xs, isL ys, decide ((entL (decL ys)).length < 1000000000)], [.c (.sl 2 none false (ents ((entP (.node s (toRows xs) (decL ys))).filter (fun e => begins e.1 pf))))], [])
  | _, _ => none
def s81b : CSpec := fun a h => match a, h with
  | [.agg [.c (.str s), .c (.sl 5 rn rt xs), .c (.sl 3 kn kt ys)], .fn 86 [.fp [.str pf], .fp [.str pt]], .fn 87 [.fp [.str pg], .fp [.str pu]]], [] => some ([decide (pf = pg), decide (pt = pu), isRows xs, isL ys, decide ((entL (decL ys)).length < 1000000000)], [.c (.sl 2 none false (ents ((entP (.node s (toRows xs) (decL ys))).filter (fun e => wB pf pt e.1))))], [])
  | _, _ => none
noncomputable abbrev p39 : Par := par E sh (ctOf [(81, s81u)]) 39 2 0
theorem t39 (s : Bys) (rn : OBo) (rt : Bool) (xs : LLC) (kn : OBo) (kt : Bool) (ys : LLC) (pf : Bys) : p39.ft ([V.agg [V.c (C.str s), V.c (C.sl 5 rn rt xs), V.c (C.sl 3 kn kt ys)], V.c (C.str pf)]) ([]) = (Tr.chk (decide (pf = pf)) (Tr.chk (isRows xs) (Tr.chk (isL ys) (Tr.chk (decide ((entL (decL ys)).length < 1000000000)) (Tr.leaf (R.out [V.c (C.sl 2 none false (ents (List.filter (fun (e : Ent) => begins e.fst pf) (entP (Nd.node s (toRows xs) (decL ys))))))] [])))))) := by kernel_rfl
noncomputable abbrev p38 : Par := par E sh (ctOf [(81, s81b)]) 38 3 0
theorem t38 (s : Bys) (rn : OBo) (rt : Bool) (xs : LLC) (kn : OBo) (kt : Bool) (ys : LLC) (pf : Bys) (pt : Bys) : p38.ft ([V.agg [V.c (C.str s), V.c (C.sl 5 rn rt xs), V.c (C.sl 3 kn kt ys)], V.c (C.str pf), V.c (C.str pt)]) ([]) = (Tr.chk (decide (pf = pf)) (Tr.chk (decide (pt = pt)) (Tr.chk (isRows xs) (Tr.chk (isL ys) (Tr.chk (decide ((entL (decL ys)).length < 1000000000)) (Tr.leaf (R.out [V.c (C.sl 2 none false (ents (List.filter (fun (e : Ent) => wB pf pt e.fst) (entP (Nd.node s (toRows xs) (decL ys))))))] []))))))) := by kernel_rfl
noncomputable abbrev p40 : Par := par E sh (ctOf []) 40 2 0
theorem t40 (s : Bys) (p : Bys) : p40.ft ([V.c (C.str s), V.c (C.str p)]) ([]) = (Tr.br (decide ((↑p.length : Int) ≤ (↑s.length : Int))) (Tr.chk true (Tr.chk true (Tr.chk (decide ((↑p.length : Int).toNat ≤ s.length)) (Tr.leaf (R.out [V.c (C.bool (List.take (↑p.length : Int).toNat s == p))] []))))) (Tr.leaf (R.out [V.c (C.bool false)] []))) := by kernel_rfl
end Go.Proofs.YtgaabjmbnomimaaDoor
namespace Go.Proofs.YtgaabjmbnomimaaDoor
open Go Go.Ev
def boxB (pf pt q s : Bys) (rn : OBo) (rt : Bool) (xs : LLC) (kn : OBo) (kt : Bool) (ys : LLC) : Hp := [.box [.c (.str q)], .box [.c (.str s), .c (.sl 5 rn rt xs), .c (.sl 3 kn kt ys)], .box [.fn 86 [.fp [.str pf], .fp [.str pt]]]]
theorem sq166b_ok (pf pt q s : Bys) (rn : OBo) (rt : Bool) (rs : List Row) (kn : OBo) (kt : Bool) (ks : List Nd) :
    E.seq 166 [.yl 3, .ptr 0 0 0 0, .ptr 1 0 0 0, .ptr 2 0 0 0] (boxB pf pt q s rn rt (rows rs) kn kt (encL ks)) = some ((walkT (alB pf pt) q (.node s rs ks)).map encE) := by
  have : sq 166 [.yl 3, .ptr 0 0 0 0, .ptr 1 0 0 0, .ptr 2 0 0 0] (boxB pf pt q s rn rt (rows rs) kn kt (encL ks)) = some ((walkT (alB pf pt) q (.node s rs ks)).map encE) := by
    simp only [sq, sq166, boxB, alongP, toRows_rows, decL_enc]
  exact this
set_option maxHeartbeats 1000000 in
theorem f166b (pf pt : Bys) : ∀ (d : Nat) (q s : Bys) (rn : OBo) (rt : Bool) (rs : List Row) (kn : OBo) (kt : Bool) (ks : List Nd) (n : Nat), depL ks < d → q.length + s.length + n ≤ 24 → kidsOk ks n → right rs = true → (rn ≠ some true ∨ rs = []) →
    ∀ (u : List (List V)) (b : Bool), Want ((walkT (alB pf pt) q (.node s rs ks)).map encE) u b →
    call E 166 args166 (boxB pf pt q s rn rt (rows rs) kn kt (encL ks) ++ [.yo u b]) = some ([], boxB pf pt q s rn rt (rows rs) kn kt (encL ks) ++ [.yo [] b])
  | 0, _, _, _, _, _, _, _, _, _, h, _, _, _, _, _, _, _ => by omega
  | d + 1, q, s, rn, rt, rs, kn, kt, ks, n, hd, hl, hk, hr, hn, u, b, hw => by
    have hct : (ctOf [(86, s86), (68, s68), (134, s134b)]).ok E := ctOf_cons s86_ok (ctOf_cons s68_ok (ctOf_cons s134b_ok ctOf_nil))
    refine call_of (E := E) (sh := sh) (ct := ctOf [(86, s86), (68, s68), (134, s134b)]) (na := 4) (m := 4) hct rfl rfl rfl rfl rfl rfl ?_
    show p166b.fd (p166b.ft [.yl 3, .ptr 0 0 0 0, .ptr 1 0 0 0, .ptr 2 0 0 0] [.box [.c (.str q)], .box [.c (.str s), .c (.sl 5 rn rt (rows rs)), .c (.sl 3 kn kt (encL ks))], .box [.fn 86 [.fp [.str pf], .fp [.str pt]]], .yo u b]) =
      some (.out [] [.box [.c (.str q)], .box [.c (.str s), .c (.sl 5 rn rt (rows rs)), .c (.sl 3 kn kt (encL ks))], .box [.fn 86 [.fp [.str pf], .fp [.str pt]]], .yo [] b])
    rw [t166b, encL_length]
    have hkl := okL_len (okL_iff'.2 hk) (by omega)
    have hrl := right_len4 hr
    have hn' : rn ≠ some true ∨ rows rs = [] := hn.imp id fun h => by rw [h]; rfl
    have hql : q.length + s.length < 4294967296 := by omega
    cases cal : alB pf pt (q ++ s) with
    | false =>
      rw [walkT_eq, cal] at hw
      obtain ⟨rfl, rfl⟩ := want_nil hw
      simp only [nd_ok, nd_lab, nd_rows, nd_kids, encL_length, isL_enc, decL_enc, wrap_hd, hd_pos, ld_br, ld_chk', ld_leaf, fd_br, fd_chk', fd_leaf, decide_true, decide_eq_true_eq, if_true, Int.toNat_natCast, Int.natCast_nonneg, Int.ofNat_lt, Int.ofNat_le, Bool.false_eq_true, if_false, bne_iff_ne, beq_iff_eq, ne_eq, not_true_eq_false, not_false_eq_true, Bool.not_eq_true', decide_eq_false_iff_not, reduceCtorEq, rows_length, pcs_length, er_ok, er_ok', ep_ok, ep_ok', dr_er, dp_ep, isRows_rows, isPcs_pcs, toRows_rows, toPcs_pcs, rows_take, rows_drop, pcs_take, pcs_drop, rows_append, pcs_append, ints_length, isInts_ints, toInts_ints, ei_i, ei_ok, mk_headD, ints_take, ints_drop, ints_append, ints_snoc, ints_snoc', List.take_length, Nat.zero_add, Nat.le_refl, er_a, er_b, er_k, er_n, er_s, er_v, ep_a, ep_b, ep_hk, ep_hn, ep_hs, ep_wk, ep_wn, ep_ws, hql, cal, Bool.not_false, if_true]
    | true =>
    rw [walkT_eq, cal] at hw
    simp only [cond_true] at hw
    obtain ⟨m, hu, hm0, hm1, hm2⟩ := want_take hw
    generalize hes : (ownW (q ++ s) rs ++ walkL (alB pf pt) (q ++ s) ks).map encE = es at *
    have hesl : es.length = (ownW (q ++ s) rs).length + (walkL (alB pf pt) (q ++ s) ks).length := by rw [← hes]; simp
    have at0 : At u b m 0 u := ⟨rfl, Nat.zero_le _, fun h => hm2 h⟩
    -- the kids
    have key : ∀ r : List (List V), At u b m (ownW (q ++ s) rs).length r → p166b.fd (Tr.ls 0 (s166b_0v pf pt q s rn rt (rows rs) kn kt (encL ks) r b (q ++ s) ks.length 0)) =
        some (.out [] [.box [.c (.str q)], .box [.c (.str s), .c (.sl 5 rn rt (rows rs)), .c (.sl 3 kn kt (encL ks))], .box [.fn 86 [.fp [.str pf], .fp [.str pt]]], .yo [] b]) := by
      intro r hat
      refine fd_post hct (by kernel_rfl) rfl (list_post (p := p166b) hct (b := b166b_0v) ks.length (fun k (r : List (List V)) => s166b_0v pf pt q s rn rt (rows rs) kn kt (encL ks) r b (q ++ s) ks.length k) (fun k r => At u b m ((ownW (q ++ s) rs).length + (walkL (alB pf pt) (q ++ s) (ks.take k)).length) r) _ ?_ ?_ 0 (Nat.zero_le _) r (by simpa [walkL] using hat))
      · intro k r hk2 hat
        have hT := hk.1 _ (List.getElem_mem hk2)
        obtain ⟨g1, g2, g3, g4, g5⟩ := okT_iff.1 hT
        have hkid : depL ks[k].kids < d := by have := depL_kid (List.getElem_mem hk2); omega
        have hnx := walkL_take (alB pf pt) (q ++ s) hk2
        have hle := walkL_take_le (alB pf pt) (q ++ s) ks (k + 1)
        have hesk : ∀ j, (hj : j < (walkT (alB pf pt) (q ++ s) ks[k]).length) → es[(ownW (q ++ s) rs).length + (walkL (alB pf pt) (q ++ s) (ks.take k)).length + j]? = some (encE (walkT (alB pf pt) (q ++ s) ks[k])[j]) := fun j hj => by
          rw [← hes, List.getElem?_map, List.getElem?_append_right (by omega)]
          have e0 : walkL (alB pf pt) (q ++ s) ks = walkL (alB pf pt) (q ++ s) (ks.take (k + 1)) ++ walkL (alB pf pt) (q ++ s) (ks.drop (k + 1)) := by rw [← walkL_app, List.take_append_drop]
          rw [e0, hnx, List.append_assoc, List.getElem?_append_right (by omega), List.getElem?_append_left (by omega)]
          have e1 : (ownW (q ++ s) rs).length + (walkL (alB pf pt) (q ++ s) (ks.take k)).length + j - (ownW (q ++ s) rs).length - (walkL (alB pf pt) (q ++ s) (ks.take k)).length = j := by omega
          rw [e1, List.getElem?_eq_getElem hj]; rfl
        rw [hnx, List.length_append] at hle
        have hin := ranges_post (p := p166b) hct (c := b166b_0v_0) (gi := 166) (caps := [.ptr 6 0 0 0, .ptr 5 0 0 0, .ptr 7 0 0 0]) (args := args166)
          (s0 := s166b_0v_0 pf pt q s rn rt (rows rs) kn kt (encL ks) r b (q ++ s) ks.length k ks[k].lab none false (rows ks[k].rows) none false (encL ks[k].kids))
          (h0 := boxB pf pt (q ++ s) ks[k].lab none false (rows ks[k].rows) none false (encL ks[k].kids)) (ids := [6, 5, 7]) (by kernel_rfl) (walkT (alB pf pt) (q ++ s) ks[k]) encE rfl (by kernel_rfl)
          (by have := sq166b_ok pf pt (q ++ s) ks[k].lab none false ks[k].rows none false ks[k].kids; rw [Nd.eta] at this; exact this)
          (fun u' b' hw' => ⟨_, _, f166b pf pt d (q ++ s) ks[k].lab none false ks[k].rows none false ks[k].kids (n - ks[k].lab.length) hkid (by rw [List.length_append]; omega) g5 g3 (.inl (by simp)) u' b' (by rw [Nd.eta]; exact hw'), rfl⟩)
          (fun (r : List (List V)) => g166b_0v_0 pf pt q s rn rt (rows rs) kn kt (encL ks) r b (q ++ s) ks.length k)
          (fun (l : List Ent) r => ∃ j, l = (walkT (alB pf pt) (q ++ s) ks[k]).drop j ∧ j ≤ (walkT (alB pf pt) (q ++ s) ks[k]).length ∧ At u b m ((ownW (q ++ s) rs).length + (walkL (alB pf pt) (q ++ s) (ks.take k)).length + j) r)
          (fun y => (∃ r', At u b m ((ownW (q ++ s) rs).length + (walkL (alB pf pt) (q ++ s) (ks.take (k + 1))).length) r' ∧ p166b.ld b166b_0v (p166b.lkx b166b_0v 0 y) = some (R.s (s166b_0v pf pt q s rn rt (rows rs) kn kt (encL ks) r' b (q ++ s) ks.length ((k + 1 : Nat) : Int)))) ∨
            (∃ x : Ex × Fr × Hp, x.1 ≠ .nrm ∧ p166b.fd (p166b.fkx 0 x) = some (.out [] [.box [.c (.str q)], .box [.c (.str s), .c (.sl 5 rn rt (rows rs)), .c (.sl 3 kn kt (encL ks))], .box [.fn 86 [.fp [.str pf], .fp [.str pt]]], .yo [] b]) ∧ p166b.ld b166b_0v (p166b.lkx b166b_0v 0 y) = some (R.x x)))
          (by
            rintro ⟨p, prs⟩ l r ⟨j, hj, hjl, hat⟩
            have hj2 : j < (walkT (alB pf pt) (q ++ s) ks[k]).length := by
              rcases Nat.lt_or_ge j (walkT (alB pf pt) (q ++ s) ks[k]).length with h | h
              · exact h
              · rw [List.drop_of_length_le h] at hj; cases hj
            rw [List.drop_eq_getElem_cons hj2] at hj
            simp only [List.cons.injEq] at hj
            obtain ⟨hj3, rfl⟩ := hj
            have hee := hesk j hj2
            rw [← hj3] at hee
            obtain ⟨hc1, hc2⟩ := List.getElem?_eq_some_iff.1 hee
            obtain ⟨_, hr1, hr2, hr3⟩ := hat.next hu hm0 hm1 hc1
            rw [hc2] at hr1
            have hrd : p166b.rds b166b_0v_0 (g166b_0v_0 pf pt q s rn rt (rows rs) kn kt (encL ks) r b (q ++ s) ks.length k) (p166b.rts b166b_0v_0 (encE (p, prs)) (g166b_0v_0 pf pt q s rn rt (rows rs) kn kt (encL ks) r b (q ++ s) ks.length k)) =
                (if (!yoAns r b) = true then some (R.x (x166b_0v_0x0 pf pt q s rn rt (rows rs) kn kt (encL ks) r b (q ++ s) ks.length k p (rows prs) none)) else some (R.s (g166b_0v_0 pf pt q s rn rt (rows rs) kn kt (encL ks) r.tail b (q ++ s) ks.length k))) := by
              refine (congrArg _ (t166b_0v_0 pf pt q s rn rt (rows rs) kn kt (encL ks) r b (q ++ s) ks.length k p (rows prs))).trans ?_
              have hyo : yoHd r [V.agg [V.c (C.str p), V.c (C.sl 5 none false (rows prs))]] = true := by rw [hr1]; exact eqb_encE p prs
              rw [rd_chk', if_pos hyo, rd_br, rd_leaf, rd_leaf]
            rcases hr3 with ⟨h1, h2⟩ | ⟨h1, h2, h3⟩
            · left
              refine ⟨r.tail, ⟨j + 1, rfl, by omega, ?_⟩, ?_⟩
              · rw [← Nat.add_assoc]; exact h2
              · rw [hrd, h1]; rfl
            · right
              refine ⟨x166b_0v_0x0 pf pt q s rn rt (rows rs) kn kt (encL ks) r b (q ++ s) ks.length k p (rows prs) none, by simp, .inr ⟨x166b_0vx0 pf pt q s rn rt (rows rs) kn kt (encL ks) r b (q ++ s) ks.length k p (rows prs) none, by simp, ?_, ?_⟩, ?_⟩
              · rw [k166b_0vx0, fd_leaf, h2]
              · rw [k166b_0v_0x0, ld_leaf]
              · rw [hrd, h1]; rfl)
          (by
            rintro r ⟨j, hj, hjl, hat⟩
            have hj2 : j = (walkT (alB pf pt) (q ++ s) ks[k]).length := by
              rcases Nat.lt_or_ge j (walkT (alB pf pt) (q ++ s) ks[k]).length with h | h
              · rw [List.drop_eq_getElem_cons h] at hj; cases hj
              · omega
            subst hj2
            left
            refine ⟨r, by rw [hnx, List.length_append, ← Nat.add_assoc]; exact hat, ?_⟩
            show p166b.ld b166b_0v (p166b.lkx b166b_0v 0 (x166b_0v_0n pf pt q s rn rt (rows rs) kn kt (encL ks) r b (q ++ s) ks.length k)) = _
            rw [k166b_0v_0n, ld_leaf, wrap_succ (by omega)])
          r rfl ⟨0, by simp, Nat.zero_le _, by simpa using hat⟩
        rw [t166b_0v]
        simp only [nd_ok, nd_lab, nd_rows, nd_kids, encL_length, isL_enc, decL_enc, wrap_hd, hd_pos, ld_br, ld_chk', ld_leaf, fd_br, fd_chk', fd_leaf, decide_true, decide_eq_true_eq, if_true, Int.toNat_natCast, Int.natCast_nonneg, Int.ofNat_lt, Int.ofNat_le, Bool.false_eq_true, if_false, bne_iff_ne, beq_iff_eq, ne_eq, not_true_eq_false, not_false_eq_true, Bool.not_eq_true', decide_eq_false_iff_not, reduceCtorEq, rows_length, pcs_length, er_ok, er_ok', ep_ok, ep_ok', dr_er, dp_ep, isRows_rows, isPcs_pcs, toRows_rows, toPcs_pcs, rows_take, rows_drop, pcs_take, pcs_drop, rows_append, pcs_append, ints_length, isInts_ints, toInts_ints, ei_i, ei_ok, mk_headD, ints_take, ints_drop, ints_append, ints_snoc, ints_snoc', List.take_length, Nat.zero_add, Nat.le_refl, er_a, er_b, er_k, er_n, er_s, er_v, ep_a, ep_b, ep_hk, ep_hn, ep_hs, ep_wk, ep_wn, ep_ws, hk2, encL_getD hk2]
        obtain ⟨y, hy, hR⟩ := hin
        rcases hy with ⟨r', h1, h2⟩ | ⟨x, h1, h2, h3⟩
        · exact .inl ⟨r', h1, ld_rpost hct (by kernel_rfl) rfl ⟨y, h2, hR⟩⟩
        · exact .inr ⟨x, h1, h2, ld_rpost hct (by kernel_rfl) rfl ⟨y, h3, hR⟩⟩
      · intro r hat
        rw [List.take_length, ← hesl] at hat
        obtain ⟨rfl, rfl⟩ := hat.end_ hu hm0 rfl
        rw [t166b_0v]
        exact ⟨x166b_0vx1 pf pt q s rn rt (rows rs) kn kt (encL ks) [] false (q ++ s) ks.length ks.length, by simp, by rw [k166b_0vx1, fd_leaf], by simp only [nd_ok, nd_lab, nd_rows, nd_kids, encL_length, isL_enc, decL_enc, wrap_hd, hd_pos, ld_br, ld_chk', ld_leaf, fd_br, fd_chk', fd_leaf, decide_true, decide_eq_true_eq, if_true, Int.toNat_natCast, Int.natCast_nonneg, Int.ofNat_lt, Int.ofNat_le, Bool.false_eq_true, if_false, bne_iff_ne, beq_iff_eq, ne_eq, not_true_eq_false, not_false_eq_true, Bool.not_eq_true', decide_eq_false_iff_not, reduceCtorEq, rows_length, pcs_length, er_ok, er_ok', ep_ok, ep_ok', dr_er, dp_ep, isRows_rows, isPcs_pcs, toRows_rows, toPcs_pcs, rows_take, rows_drop, pcs_take, pcs_drop, rows_append, pcs_append, ints_length, isInts_ints, toInts_ints, ei_i, ei_ok, mk_headD, ints_take, ints_drop, ints_append, ints_snoc, ints_snoc', List.take_length, Nat.zero_add, Nat.le_refl, er_a, er_b, er_k, er_n, er_s, er_v, ep_a, ep_b, ep_hk, ep_hn, ep_hs, ep_wk, ep_wn, ep_ws, Int.lt_irrefl]⟩
    have hrl2 : rs.length < 4294967296 := by omega
    simp only [nd_ok, nd_lab, nd_rows, nd_kids, encL_length, isL_enc, decL_enc, wrap_hd, hd_pos, ld_br, ld_chk', ld_leaf, fd_br, fd_chk', fd_leaf, decide_true, decide_eq_true_eq, if_true, Int.toNat_natCast, Int.natCast_nonneg, Int.ofNat_lt, Int.ofNat_le, Bool.false_eq_true, if_false, bne_iff_ne, beq_iff_eq, ne_eq, not_true_eq_false, not_false_eq_true, Bool.not_eq_true', decide_eq_false_iff_not, reduceCtorEq, rows_length, pcs_length, er_ok, er_ok', ep_ok, ep_ok', dr_er, dp_ep, isRows_rows, isPcs_pcs, toRows_rows, toPcs_pcs, rows_take, rows_drop, pcs_take, pcs_drop, rows_append, pcs_append, ints_length, isInts_ints, toInts_ints, ei_i, ei_ok, mk_headD, ints_take, ints_drop, ints_append, ints_snoc, ints_snoc', List.take_length, Nat.zero_add, Nat.le_refl, er_a, er_b, er_k, er_n, er_s, er_v, ep_a, ep_b, ep_hk, ep_hn, ep_hs, ep_wk, ep_wn, ep_ws, hql, hrl2, cal, Bool.not_true, Bool.false_eq_true, if_false]
    by_cases c : rs = []
    · subst c
      rw [if_neg (by simp)]
      exact key u at0
    · have c0 : (0 : Int) < rs.length := by have := List.length_pos_iff.2 c; omega
      obtain ⟨r0, rr, rfl⟩ : ∃ a r, rs = a :: r := by cases rs with | nil => exact absurd rfl c | cons a r => exact ⟨a, r, rfl⟩
      have ho : ownW (q ++ s) (r0 :: rr) = [(q ++ s, r0 :: rr)] := rfl
      have h0 : 0 < es.length := by rw [hesl, ho]; simp; omega
      have he0 : es[0] = encE (q ++ s, r0 :: rr) := by simp only [← hes, ho]; rfl
      obtain ⟨_, hr1, hr2, hr3⟩ := at0.next hu hm0 hm1 h0
      rw [he0] at hr1
      have hyo : yoHd u [V.agg [V.c (C.str (q ++ s)), V.c (C.sl 5 none false (rows (r0 :: rr)))]] = true := by rw [hr1]; exact eqb_encE _ _
      rw [if_pos c0]
      simp only [hn', hyo, if_true]
      rcases hr3 with ⟨h1, h2⟩ | ⟨h1, h2, h3⟩
      · rw [if_neg (by simp [h1])]
        exact key u.tail (by rw [ho]; exact h2)
      · rw [if_pos (by simp [h1]), h2]
theorem r81u (pf : Bys) (acc : List Ent) (p : Bys) (prs : List Row) (hlen : acc.length + 1 < 4294967296) :
    p81u.rds b81u_0 (g81u_0 pf (some true) true [] (ents acc) acc.length) (p81u.rts b81u_0 (encE (p, prs)) (g81u_0 pf (some true) true [] (ents acc) acc.length)) =
      some (R.s (g81u_0 pf (some true) true [] (ents (acc ++ cond (begins p pf) [(p, prs)] [])) (acc ++ cond (begins p pf) [(p, prs)] []).length)) := by
  refine (congrArg (p81u.rds b81u_0 _) (t81u_0 pf (some true) true [] (ents acc) acc.length p (rows prs))).trans ?_
  cases c : begins p pf with
  | false => simp only [rd_br, rd_leaf, Bool.false_eq_true, if_false, cond_false, List.append_nil]
  | true => simp only [rd_br, rd_chk', rd_leaf, if_true, hlen, decide_true, ents_take acc acc.length rfl, ents_snoc, List.length_append, List.length_singleton, cond_true]
theorem f81u (pf : Bys) (s : Bys) (rn : OBo) (rt : Bool) (rs : List Row) (kn : OBo) (kt : Bool) (ks : List Nd) (hn : (entL ks).length < 1000000000) :
    call E 81 [.agg [.c (.str s), .c (.sl 5 rn rt (rows rs)), .c (.sl 3 kn kt (encL ks))], .fn 88 [.fp [.str pf]], .fn 89 [.fp [.str pf]]] [] = some ([.c (.sl 2 none false (ents ((entP (.node s rs ks)).filter (fun e => begins e.1 pf))))], []) := by
  have hct : (ctOf [(28, s28), (134, s134u), (89, s89)]).ok E := ctOf_cons s28_ok (ctOf_cons s134u_ok (ctOf_cons s89_ok ctOf_nil))
  refine call_of (E := E) (sh := sh) (ct := ctOf [(28, s28), (134, s134u), (89, s89)]) (na := 3) (m := 0) hct rfl rfl rfl rfl rfl rfl ?_
  rw [t81u]
  simp only [nd_ok, nd_lab, nd_rows, nd_kids, encL_length, isL_enc, decL_enc, wrap_hd, hd_pos, ld_br, ld_chk', ld_leaf, fd_br, fd_chk', fd_leaf, decide_true, decide_eq_true_eq, if_true, Int.toNat_natCast, Int.natCast_nonneg, Int.ofNat_lt, Int.ofNat_le, Bool.false_eq_true, if_false, bne_iff_ne, beq_iff_eq, ne_eq, not_true_eq_false, not_false_eq_true, Bool.not_eq_true', decide_eq_false_iff_not, reduceCtorEq, rows_length, pcs_length, er_ok, er_ok', ep_ok, ep_ok', dr_er, dp_ep, isRows_rows, isPcs_pcs, toRows_rows, toPcs_pcs, rows_take, rows_drop, pcs_take, pcs_drop, rows_append, pcs_append, ints_length, isInts_ints, toInts_ints, ei_i, ei_ok, mk_headD, ints_take, ints_drop, ints_append, ints_snoc, ints_snoc', List.take_length, Nat.zero_add, Nat.le_refl, er_a, er_b, er_k, er_n, er_s, er_v, ep_a, ep_b, ep_hk, ep_hn, ep_hs, ep_wk, ep_wn, ep_ws, checkT_ne]
  rw [entP_node]
  cases c1 : okR (.node s rs ks) with
  | false => rfl
  | true =>
    have c1' := okR_iff.1 c1
    simp only [Nd.lab_node, Nd.rows_node, Nd.kids_node] at c1'
    obtain ⟨rfl, rfl, hk⟩ := c1'
    simp only [Bool.not_true, Bool.false_eq_true, if_false, cond_true]
    have hww := walk_want (alU pf) (fun x => begins x pf) (alU_ok pf) ks
    have hf : ∀ (u : List (List V)) (b : Bool), Want ((walkT (alU pf) [] (.node [] [] ks)).map encE) u b → call E 166 args166 (boxU pf [] [] rn rt (rows []) kn kt (encL ks) ++ [.yo u b]) = some ([], boxU pf [] [] rn rt (rows []) kn kt (encL ks) ++ [.yo [] b]) :=
      fun u b hw => f166u pf (depL ks + 1) [] [] rn rt [] kn kt ks 24 (Nat.lt_succ_self _) (by simp) hk rfl (.inr rfl) u b hw
    refine fd_rpost hct (by kernel_rfl) rfl (ranges_post (p := p81u) hct (c := b81u_0) (gi := 166) (caps := [.ptr 4 0 0 0, .ptr 3 0 0 0, .ptr 5 0 0 0]) (args := args166)
      (h0 := boxU pf [] [] rn rt (rows []) kn kt (encL ks)) (ids := [4, 3, 5]) (by kernel_rfl) (walkT (alU pf) [] (.node [] [] ks)) encE rfl (by kernel_rfl)
      (sq166u_ok pf [] [] rn rt [] kn kt ks)
      (fun u b hw => ⟨_, _, hf u b hw, rfl⟩)
      (fun (acc : List Ent) => g81u_0 pf (some true) true [] (ents (acc.filter (fun e => begins e.1 pf))) (acc.filter (fun e => begins e.1 pf)).length) (fun l acc => acc ++ l = walkT (alU pf) [] (.node [] [] ks)) _ ?_ ?_ [] rfl rfl)
    · rintro ⟨p, prs⟩ l acc hi
      left
      have hlen : (acc.filter (fun e => begins e.1 pf)).length + 1 < 4294967296 := by
        have h2 := List.length_filter_le (fun e : Ent => begins e.1 pf) (entL ks)
        have h3 := congrArg List.length (hi.symm ▸ hww : List.filter _ (acc ++ (p, prs) :: l) = _)
        simp only [List.filter_append, List.length_append] at h3; omega
      refine ⟨acc ++ [(p, prs)], by rw [← hi]; simp, ?_⟩
      have e1 : (acc ++ [(p, prs)]).filter (fun e => begins e.1 pf) = acc.filter (fun e => begins e.1 pf) ++ cond (begins p pf) [(p, prs)] [] := by
        rw [List.filter_append]; cases c : begins p pf <;> simp [c]
      have e2 := r81u pf _ p prs hlen
      rw [← e1] at e2
      exact e2
    · intro acc hi
      rw [List.append_nil] at hi
      subst hi
      show p81u.fd (p81u.fkx 0 (x81u_0n pf (some true) true [] (ents _) _)) = _
      rw [k81u_0n, fd_leaf, ents_take _ _ rfl, hww]
theorem r81b (pf pt : Bys) (acc : List Ent) (p : Bys) (prs : List Row) (hlen : acc.length + 1 < 4294967296) :
    p81b.rds b81b_0 (g81b_0 pf pt (some true) true [] (ents acc) acc.length) (p81b.rts b81b_0 (encE (p, prs)) (g81b_0 pf pt (some true) true [] (ents acc) acc.length)) =
      some (R.s (g81b_0 pf pt (some true) true [] (ents (acc ++ cond (wB pf pt p) [(p, prs)] [])) (acc ++ cond (wB pf pt p) [(p, prs)] []).length)) := by
  refine (congrArg (p81b.rds b81b_0 _) (t81b_0 pf pt (some true) true [] (ents acc) acc.length p (rows prs))).trans ?_
  cases c : wB pf pt p with
  | false => simp only [rd_br, rd_leaf, Bool.false_eq_true, if_false, cond_false, List.append_nil]
  | true => simp only [rd_br, rd_chk', rd_leaf, if_true, hlen, decide_true, ents_take acc acc.length rfl, ents_snoc, List.length_append, List.length_singleton, cond_true]
theorem f81b (pf pt : Bys) (s : Bys) (rn : OBo) (rt : Bool) (rs : List Row) (kn : OBo) (kt : Bool) (ks : List Nd) (hn : (entL ks).length < 1000000000) :
    call E 81 [.agg [.c (.str s), .c (.sl 5 rn rt (rows rs)), .c (.sl 3 kn kt (encL ks))], .fn 86 [.fp [.str pf], .fp [.str pt]], .fn 87 [.fp [.str pf], .fp [.str pt]]] [] = some ([.c (.sl 2 none false (ents ((entP (.node s rs ks)).filter (fun e => wB pf pt e.1))))], []) := by
  have hct : (ctOf [(28, s28), (134, s134b), (87, s87)]).ok E := ctOf_cons s28_ok (ctOf_cons s134b_ok (ctOf_cons s87_ok ctOf_nil))
  refine call_of (E := E) (sh := sh) (ct := ctOf [(28, s28), (134, s134b), (87, s87)]) (na := 3) (m := 0) hct rfl rfl rfl rfl rfl rfl ?_
  rw [t81b]
  simp only [nd_ok, nd_lab, nd_rows, nd_kids, encL_length, isL_enc, decL_enc, wrap_hd, hd_pos, ld_br, ld_chk', ld_leaf, fd_br, fd_chk', fd_leaf, decide_true, decide_eq_true_eq, if_true, Int.toNat_natCast, Int.natCast_nonneg, Int.ofNat_lt, Int.ofNat_le, Bool.false_eq_true, if_false, bne_iff_ne, beq_iff_eq, ne_eq, not_true_eq_false, not_false_eq_true, Bool.not_eq_true', decide_eq_false_iff_not, reduceCtorEq, rows_length, pcs_length, er_ok, er_ok', ep_ok, ep_ok', dr_er, dp_ep, isRows_rows, isPcs_pcs, toRows_rows, toPcs_pcs, rows_take, rows_drop, pcs_take, pcs_drop, rows_append, pcs_append, ints_length, isInts_ints, toInts_ints, ei_i, ei_ok, mk_headD, ints_take, ints_drop, ints_append, ints_snoc, ints_snoc', List.take_length, Nat.zero_add, Nat.le_refl, er_a, er_b, er_k, er_n, er_s, er_v, ep_a, ep_b, ep_hk, ep_hn, ep_hs, ep_wk, ep_wn, ep_ws, checkT_ne]
  rw [entP_node]
  cases c1 : okR (.node s rs ks) with
  | false => rfl
  | true =>
    have c1' := okR_iff.1 c1
    simp only [Nd.lab_node, Nd.rows_node, Nd.kids_node] at c1'
    obtain ⟨rfl, rfl, hk⟩ := c1'
    simp only [Bool.not_true, Bool.false_eq_true, if_false, cond_true]
    have hww := walk_want (alB pf pt) (fun x => wB pf pt x) (alB_ok pf pt) ks
    have hf : ∀ (u : List (List V)) (b : Bool), Want ((walkT (alB pf pt) [] (.node [] [] ks)).map encE) u b → call E 166 args166 (boxB pf pt [] [] rn rt (rows []) kn kt (encL ks) ++ [.yo u b]) = some ([], boxB pf pt [] [] rn rt (rows []) kn kt (encL ks) ++ [.yo [] b]) :=
      fun u b hw => f166b pf pt (depL ks + 1) [] [] rn rt [] kn kt ks 24 (Nat.lt_succ_self _) (by simp) hk rfl (.inr rfl) u b hw
    refine fd_rpost hct (by kernel_rfl) rfl (ranges_post (p := p81b) hct (c := b81b_0) (gi := 166) (caps := [.ptr 4 0 0 0, .ptr 3 0 0 0, .ptr 5 0 0 0]) (args := args166)
      (h0 := boxB pf pt [] [] rn rt (rows []) kn kt (encL ks)) (ids := [4, 3, 5]) (by kernel_rfl) (walkT (alB pf pt) [] (.node [] [] ks)) encE rfl (by kernel_rfl)
      (sq166b_ok pf pt [] [] rn rt [] kn kt ks)
      (fun u b hw => ⟨_, _, hf u b hw, rfl⟩)
      (fun (acc : List Ent) => g81b_0 pf pt (some true) true [] (ents (acc.filter (fun e => wB pf pt e.1))) (acc.filter (fun e => wB pf pt e.1)).length) (fun l acc => acc ++ l = walkT (alB pf pt) [] (.node [] [] ks)) _ ?_ ?_ [] rfl rfl)
    · rintro ⟨p, prs⟩ l acc hi
      left
      have hlen : (acc.filter (fun e => wB pf pt e.1)).length + 1 < 4294967296 := by
        have h2 := List.length_filter_le (fun e : Ent => wB pf pt e.1) (entL ks)
        have h3 := congrArg List.length (hi.symm ▸ hww : List.filter _ (acc ++ (p, prs) :: l) = _)
        simp only [List.filter_append, List.length_append] at h3; omega
      refine ⟨acc ++ [(p, prs)], by rw [← hi]; simp, ?_⟩
      have e1 : (acc ++ [(p, prs)]).filter (fun e => wB pf pt e.1) = acc.filter (fun e => wB pf pt e.1) ++ cond (wB pf pt p) [(p, prs)] [] := by
        rw [List.filter_append]; cases c : wB pf pt p <;> simp [c]
      have e2 := r81b pf pt _ p prs hlen
      rw [← e1] at e2
      exact e2
    · intro acc hi
      rw [List.append_nil] at hi
      subst hi
      show p81b.fd (p81b.fkx 0 (x81b_0n pf pt (some true) true [] (ents _) _)) = _
      rw [k81b_0n, fd_leaf, ents_take _ _ rfl, hww]
theorem s81u_ok : CSpecOk E 81 s81u := by
  intro a h cs vals h' he hc
  unfold s81u at he
  split at he <;> simp only [Option.some.injEq, Prod.mk.injEq, reduceCtorEq] at he
  obtain ⟨rfl, rfl, rfl⟩ := he
  simp only [allT, Bool.and_true, Bool.and_eq_true, decide_eq_true_eq] at hc
  obtain ⟨h0, h1, h2, h3⟩ := hc
  subst h0
  obtain ⟨rs, rfl⟩ := rows_ex h1
  obtain ⟨ks, rfl⟩ := isL_ex h2
  simp only [toRows_rows, decL_enc] at *
  exact f81u _ _ _ _ rs _ _ ks h3
theorem s81b_ok : CSpecOk E 81 s81b := by
  intro a h cs vals h' he hc
  unfold s81b at he
  split at he <;> simp only [Option.some.injEq, Prod.mk.injEq, reduceCtorEq] at he
  obtain ⟨rfl, rfl, rfl⟩ := he
  simp only [allT, Bool.and_true, Bool.and_eq_true, decide_eq_true_eq] at hc
  obtain ⟨h0, h00, h1, h2, h3⟩ := hc
  subst h0 h00
  obtain ⟨rs, rfl⟩ := rows_ex h1
  obtain ⟨ks, rfl⟩ := isL_ex h2
  simp only [toRows_rows, decL_enc] at *
  exact f81b _ _ _ _ _ rs _ _ ks h3
def s39 : CSpec := fun a h => match a, h with
  | [.agg [.c (.str s), .c (.sl 5 rn rt xs), .c (.sl 3 kn kt ys)], .c (.str pf)], [] => some ([isRows xs, isL ys, decide ((entL (decL ys)).length < 1000000000)], [.c (.sl 2 none false (ents ((entP (.node s (toRows xs) (decL ys))).filter (fun e => begins e.1 pf))))], [])
  | _, _ => none
def s38 : CSpec := fun a h => match a, h with
  | [.agg [.c (.str s), .c (.sl 5 rn rt xs), .c (.sl 3 kn kt ys)], .c (.str pf), .c (.str pt)], [] => some ([isRows xs, isL ys, decide ((entL (decL ys)).length < 1000000000)], [.c (.sl 2 none false (ents ((entP (.node s (toRows xs) (decL ys))).filter (fun e => wB pf pt e.1))))], [])
  | _, _ => none
def s40 : CSpec := fun a h => match a, h with
  | [.c (.str s), .c (.str p)], [] => some ([], [V.b (begins s p)], [])
  | _, _ => none
theorem s39_ok : CSpecOk E 39 s39 := by
  intro a h cs vals h' he hc
  unfold s39 at he
  split at he <;> simp only [Option.some.injEq, Prod.mk.injEq, reduceCtorEq] at he
  obtain ⟨rfl, rfl, rfl⟩ := he
  simp only [allT, Bool.and_true, Bool.and_eq_true, decide_eq_true_eq] at hc
  obtain ⟨h1, h2, h3⟩ := hc
  refine call_of (E := E) (sh := sh) (ct := ctOf [(81, s81u)]) (na := 2) (m := 0) (ctOf_cons s81u_ok ctOf_nil) rfl rfl rfl rfl rfl rfl ?_
  rw [show p39.ft _ _ = _ from t39 _ _ _ _ _ _ _ _]
  simp only [fd_chk', fd_leaf, h1, h2, h3, decide_true, if_true]
theorem s38_ok : CSpecOk E 38 s38 := by
  intro a h cs vals h' he hc
  unfold s38 at he
  split at he <;> simp only [Option.some.injEq, Prod.mk.injEq, reduceCtorEq] at he
  obtain ⟨rfl, rfl, rfl⟩ := he
  simp only [allT, Bool.and_true, Bool.and_eq_true, decide_eq_true_eq] at hc
  obtain ⟨h1, h2, h3⟩ := hc
  refine call_of (E := E) (sh := sh) (ct := ctOf [(81, s81b)]) (na := 3) (m := 0) (ctOf_cons s81b_ok ctOf_nil) rfl rfl rfl rfl rfl rfl ?_
  rw [show p38.ft _ _ = _ from t38 _ _ _ _ _ _ _ _ _]
  simp only [fd_chk', fd_leaf, h1, h2, h3, decide_true, if_true]
theorem f40 (s p : Bys) : call E 40 [.c (.str s), .c (.str p)] [] = some ([V.b (begins s p)], []) := by
  refine call_of (E := E) (sh := sh) (ct := ctOf []) (na := 2) (m := 0) ctOf_nil rfl rfl rfl rfl rfl rfl ?_
  rw [t40]
  simp only [fd_br, fd_chk', fd_leaf, Int.toNat_natCast, Int.ofNat_le, decide_eq_true_eq, if_true]
  by_cases c : p.length ≤ s.length
  · rw [if_pos c, if_pos c]
    simp only [begins, c, decide_true, Bool.true_and, V.b]
    rw [show (List.take p.length s == p) = decide (List.take p.length s = p) from by rw [Bool.eq_iff_iff, beq_iff_eq, decide_eq_true_eq]]
  · rw [if_neg c]
    simp only [begins, c, decide_false, Bool.false_and, V.b]
theorem s40_ok : CSpecOk E 40 s40 := by
  intro a h cs vals h' he hc
  unfold s40 at he
  split at he <;> simp only [Option.some.injEq, Prod.mk.injEq, reduceCtorEq] at he
  obtain ⟨rfl, rfl, rfl⟩ := he
  exact f40 _ _
end Go.Proofs.YtgaabjmbnomimaaDoor
namespace Go.Proofs.YtgaabjmbnomimaaDoor
open Go Go.Ev
-- cse
def s26 : CSpec := fun a h => match a, h with
  | [.c (.sl 5 nl tt xs), .c (.sl 5 nl2 t2 ys)], [] => some ([isRows xs, isRows ys, decide (xs.length ≤ 9223372036854775807)], [V.b (decide (toRows xs = toRows ys))], [])
  | _, _ => none
noncomputable abbrev p33 : Par := par E sh (ctOf [(26, s26)]) 33 2 0
abbrev s33_0 (nl : OBo) (tt : Bool) (xs : LLC) (nl2 : OBo) (t2 : Bool) (ys : LLC) (i5 : Int) : Fr × Hp := ([(0, V.c (C.sl 2 nl tt xs)), (1, V.c (C.sl 2 nl2 t2 ys)), (5, V.c (C.int IntKind.i64 i5))], [])
noncomputable abbrev b33_0 : Code := loopAt (codeOf E (33)) 0
abbrev x33_0x0 : Ex × Fr × Hp := (Ex.ret, [(4, V.c (C.bool false))], [])
abbrev x33_0x1 (nl : OBo) (tt : Bool) (xs : LLC) (nl2 : OBo) (t2 : Bool) (ys : LLC) (i5 : Int) : Ex × Fr × Hp := (Ex.exit 0, [(0, V.c (C.sl 2 nl tt xs)), (1, V.c (C.sl 2 nl2 t2 ys)), (5, V.c (C.int IntKind.i64 i5)), (14, V.c (C.bool false))], [])
theorem t33_0 (nl : OBo) (tt : Bool) (xs : LLC) (nl2 : OBo) (t2 : Bool) (ys : LLC) (i5 : Int) : p33.lts b33_0 (s33_0 nl tt xs nl2 t2 ys i5) = (Tr.br (decide (i5 < (↑xs.length : Int))) (Tr.chk (decide (0 ≤ i5)) (Tr.chk true (Tr.chk (decide (i5.toNat < xs.length)) (Tr.chk (shOk [Sk.str, Sk.sl 5] (xs.getD i5.toNat [])) (Tr.chk (decide (0 ≤ i5)) (Tr.chk true (Tr.chk (decide (i5.toNat < ys.length)) (Tr.chk (shOk [Sk.str, Sk.sl 5] (ys.getD i5.toNat [])) (Tr.br (!((xs.getD i5.toNat []).headD C.pnil).st == ((ys.getD i5.toNat []).headD C.pnil).st) (Tr.leaf (R.x x33_0x0)) (Tr.chk (decide (0 ≤ i5)) (Tr.chk true (Tr.chk (decide (i5.toNat < xs.length)) (Tr.chk (shOk [Sk.str, Sk.sl 5] (xs.getD i5.toNat [])) (Tr.chk (decide (0 ≤ i5)) (Tr.chk true (Tr.chk (decide (i5.toNat < ys.length)) (Tr.chk (shOk [Sk.str, Sk.sl 5] (ys.getD i5.toNat [])) (Tr.chk (isRows ((xs.getD i5.toNat []).tail.headD C.pnil).xs) (Tr.chk (isRows ((ys.getD i5.toNat []).tail.headD C.pnil).xs) (Tr.chk (decide (((xs.getD i5.toNat []).tail.headD C.pnil).xs.length ≤ 9223372036854775807)) (Tr.br (!decide (toRows ((xs.getD i5.toNat []).tail.headD C.pnil).xs = toRows ((ys.getD i5.toNat []).tail.headD C.pnil).xs)) (Tr.leaf (R.x x33_0x0)) (Tr.leaf (R.s (s33_0 nl tt xs nl2 t2 ys (IntKind.i64.wrap (i5 + 1)))))))))))))))))))))))))) (Tr.leaf (R.x (x33_0x1 nl tt xs nl2 t2 ys i5)))) := by kernel_rfl
theorem k33_0x1 (nl : OBo) (tt : Bool) (xs : LLC) (nl2 : OBo) (t2 : Bool) (ys : LLC) (i5 : Int) : p33.fkx 0 (x33_0x1 nl tt xs nl2 t2 ys i5) = (Tr.leaf (R.out [V.c (C.bool true)] [])) := by kernel_rfl
theorem t33 (nl : OBo) (tt : Bool) (xs : LLC) (nl2 : OBo) (t2 : Bool) (ys : LLC) : p33.ft ([V.c (C.sl 2 nl tt xs), V.c (C.sl 2 nl2 t2 ys)]) ([]) = (Tr.br ((↑xs.length : Int) != (↑ys.length : Int)) (Tr.leaf (R.out [V.c (C.bool false)] [])) (Tr.ls 0 (s33_0 nl tt xs nl2 t2 ys (0)))) := by kernel_rfl
variable (dd : Nat)
end Go.Proofs.YtgaabjmbnomimaaDoor
namespace Go.Proofs.YtgaabjmbnomimaaDoor
open Go Go.Ev
theorem s26_ok : CSpecOk E 26 s26 := by
  intro a h cs vals h' he hc
  unfold s26 at he
  split at he <;> simp only [Option.some.injEq, Prod.mk.injEq, reduceCtorEq] at he
  rename_i nl tt xs nl2 t2 ys
  obtain ⟨rfl, rfl, rfl⟩ := he
  simp only [allT, Bool.and_true, Bool.and_eq_true, decide_eq_true_eq] at hc
  obtain ⟨h1, h2, h3⟩ := hc
  obtain ⟨l, rfl⟩ := rows_ex h1
  obtain ⟨m, rfl⟩ := rows_ex h2
  simp only [toRows_rows, rows_length] at *
  exact f26 l m nl tt nl2 t2 h3
end Go.Proofs.YtgaabjmbnomimaaDoor
namespace Go.Proofs.YtgaabjmbnomimaaDoor
open Go Go.Ev
-- cse
end Go.Proofs.YtgaabjmbnomimaaDoor
namespace Go.Proofs.YtgaabjmbnomimaaDoor
open Go Go.Ev
-- cse
end Go.Proofs.YtgaabjmbnomimaaDoor
namespace Go.Proofs.YtgaabjmbnomimaaDoor
open Go Go.Ev
section
variable {x y z : List Ent} {S : List Sd} (hs : SP x y z S) (hx : Gd x) (hy : Gd y) (hz : Gd z)
include hs
omit hs in
include hx hy hz
end
end Go.Proofs.YtgaabjmbnomimaaDoor
namespace Go.Proofs.YtgaabjmbnomimaaDoor
open Go Go.Ev
-- cse
end Go.Proofs.YtgaabjmbnomimaaDoor
namespace Go.Proofs.YtgaabjmbnomimaaDoor
open Go Go.Ev
theorem right_len63 {l : List Row} (h : right l = true) : l.length ≤ 9223372036854775807 := by have := right_len4 h; omega
theorem entP_len (t : Nd) (h : (entL t.kids).length < 1000000000) : (entP t).length < 1000000000 := by
  rw [entP]; cases okR t
  · simp
  · exact h
end Go.Proofs.YtgaabjmbnomimaaDoor
namespace Go.Proofs.YtgaabjmbnomimaaDoor
open Go Go.Ev
-- cse
variable (dd : Nat)
end Go.Proofs.YtgaabjmbnomimaaDoor
namespace Go.Proofs.YtgaabjmbnomimaaDoor
open Go Go.Ev
mutual
theorem leftT_ent : ∀ (t : Nd) (n d : Int), 0 ≤ n → 0 < leftT t n d → ((entT t).length : Int) ≤ n - leftT t n d
  | .node lab rs ks, n, d, h0, h => by
    rw [leftT] at h ⊢
    split at h
    · omega
    · rename_i hc
      rw [if_neg hc]
      have := leftL_ent ks (n - 1 - ((lab.length / 50 : Nat) : Int)) (d - 1) (by omega) h
      have hl := entT_node [] lab rs ks
      rw [pre_nil] at hl
      rw [hl, List.length_append, pre_length]
      have ho : (ownE ([] ++ lab) rs).length ≤ 1 := by unfold ownE; split <;> simp
      omega
theorem leftL_ent : ∀ (l : List Nd) (n d : Int), 0 ≤ n → 0 < leftL l n d → ((entL l).length : Int) ≤ n - leftL l n d
  | [], n, d, h0, h => by rw [leftL, entL]; simp
  | t :: r, n, d, h0, h => by
    rw [leftL] at h ⊢
    split at h
    · rename_i hn
      rw [if_pos hn]
      have hle := leftT_le t n d h0
      have hpos : 0 < leftT t n d := by
        have := (leftL_le r (leftT t n d) d hle.1).2; omega
      have h1 := leftT_ent t n d h0 hpos
      have h2 := leftL_ent r (leftT t n d) d hle.1 h
      rw [entL, List.length_append]
      omega
    · omega
end
end Go.Proofs.YtgaabjmbnomimaaDoor
namespace Go.Proofs.YtgaabjmbnomimaaDoor
open Go Go.Ev
def dE (x : List C) : Ent := ((x.headD .pnil).st, toRows (x.tail.headD .pnil).xs)
def isE (x : List C) : Bool := shOk [.str, .sl 5] x && isRows (x.tail.headD .pnil).xs
def isEs (xs : LLC) : Bool := xs.all isE
def toEs (xs : LLC) : List Ent := xs.map dE
theorem dE_ee (e : Ent) : dE (ee e) = e := by unfold dE; rw [ee_p, ee_r, toRows_rows]
theorem isE_ee (e : Ent) : isE (ee e) = true := by unfold isE; rw [ee_ok, ee_r, isRows_rows]; rfl
theorem isE_of {x : List C} (h : isE x = true) : x = ee (dE x) := by
  simp only [isE, Bool.and_eq_true] at h
  have h4 := shape_ok h.1
  have : ee (dE x) = Go.Ev.shape [.str, .sl 5] x := by
    show [C.str (x.headD .pnil).st, C.sl 5 none false (rows (toRows (x.tail.headD .pnil).xs))] = _
    rw [← rows_of h.2]; rfl
  rw [this]; exact h4.symm
theorem ents_ex {xs : List (List C)} (h : isEs xs = true) : ∃ l, xs = ents l := by
  refine ⟨toEs xs, ?_⟩
  unfold isEs at h
  rw [List.all_eq_true] at h
  unfold ents toEs
  rw [List.map_map]
  conv => lhs; rw [← List.map_id xs]
  exact List.map_congr_left fun x hx => isE_of (h x hx)
theorem isEs_ents (l : List Ent) : isEs (ents l) = true := by simp [isEs, ents, isE_ee]
theorem toEs_ents (l : List Ent) : toEs (ents l) = l := by simp [toEs, ents, dE_ee, Function.comp_def]
end Go.Proofs.YtgaabjmbnomimaaDoor
namespace Go.Proofs.YtgaabjmbnomimaaDoor
open Go Go.Ev
-- cse
variable (dd : Nat)
end Go.Proofs.YtgaabjmbnomimaaDoor
namespace Go.Proofs.YtgaabjmbnomimaaDoor
open Go Go.Ev
-- cse
noncomputable abbrev p23 : Par := par E sh (ctOf []) 23 1 0
abbrev s23_0 (nl : OBo) (tt : Bool) (xs : LLC) (i3 : Int) : Fr × Hp := ([(0, V.c (C.sl 5 nl tt xs)), (3, V.c (C.int IntKind.i64 i3))], [])
noncomputable abbrev b23_0 : Code := loopAt (codeOf E (23)) 0
abbrev x23_0x0 : Ex × Fr × Hp := (Ex.ret, [(2, V.c (C.bool false))], [])
abbrev x23_0x1 (nl : OBo) (tt : Bool) (xs : LLC) (i3 : Int) : Ex × Fr × Hp := (Ex.exit 0, [(0, V.c (C.sl 5 nl tt xs)), (3, V.c (C.int IntKind.i64 i3)), (10, V.c (C.bool false))], [])
theorem t23_0 (nl : OBo) (tt : Bool) (xs : LLC) (i3 : Int) : p23.lts b23_0 (s23_0 nl tt xs i3) = (Tr.br (decide (i3 < (↑xs.length : Int))) (Tr.chk (decide (0 ≤ i3)) (Tr.chk true (Tr.chk (decide (i3.toNat < xs.length)) (Tr.chk (shOk [Sk.int IntKind.i64, Sk.int IntKind.i64, Sk.int IntKind.i64, Sk.int IntKind.i64, Sk.str] (xs.getD i3.toNat [])) (Tr.br (decide (100 < (↑((xs.getD i3.toNat []).tail.tail.tail.tail.headD C.pnil).st.length : Int))) (Tr.leaf (R.x x23_0x0)) (Tr.leaf (R.s (s23_0 nl tt xs (IntKind.i64.wrap (i3 + 1)))))))))) (Tr.leaf (R.x (x23_0x1 nl tt xs i3)))) := by kernel_rfl
theorem k23_0x0 : p23.fkx 0 x23_0x0 = (Tr.leaf (R.out [V.c (C.bool false)] [])) := by kernel_rfl
theorem k23_0x1 (nl : OBo) (tt : Bool) (xs : LLC) (i3 : Int) : p23.fkx 0 (x23_0x1 nl tt xs i3) = (Tr.leaf (R.out [V.c (C.bool true)] [])) := by kernel_rfl
theorem t23 (nl : OBo) (tt : Bool) (xs : LLC) : p23.ft ([V.c (C.sl 5 nl tt xs)]) ([]) = (Tr.br (decide (70 < (↑xs.length : Int))) (Tr.leaf (R.out [V.c (C.bool false)] [])) (Tr.ls 0 (s23_0 nl tt xs (0)))) := by kernel_rfl
def s23 : CSpec := fun a h => match a, h with
  | [.c (.sl 5 nl tt xs)], [] => some ([isRows xs], [V.b (shortR (toRows xs))], [])
  | _, _ => none
variable (dd : Nat)
def s61 : CSpec := fun a h => match a, h with
  | [.agg [.c (.str s), .c (.sl 5 rn rt xs), .c (.sl 3 kn kt ys)], .c (.int .i64 n), .c (.int .i64 d)], [] => some ([isRows xs, isL ys, decide (depL (decL ys) < dd), decide (0 ≤ n), decide (n ≤ 1000), decide (-1000 ≤ d), decide (d ≤ 1000), lensT (.node s (toRows xs) (decL ys))], [V.i (leftT (.node s (toRows xs) (decL ys)) n d)], [])
  | _, _ => none
noncomputable abbrev p61 : Par := par E sh (ctOf [(23, s23), (61, s61 dd)]) 61 3 0
abbrev s61_0 (s : Bys) (rn : OBo) (rt : Bool) (xs : LLC) (kn : OBo) (kt : Bool) (ys : LLC) (d : Int) (i1 : Int) (i7 : Int) : Fr × Hp := ([(1, V.c (C.int IntKind.i64 i1)), (2, V.c (C.int IntKind.i64 d)), (3, V.ptr 0 0 0 0), (7, V.c (C.int IntKind.i64 i7))], [O.box [V.c (C.str s), V.c (C.sl 5 rn rt xs), V.c (C.sl 3 kn kt ys)]])
noncomputable abbrev b61_0 : Code := loopAt (codeOf E (61)) 0
abbrev x61_0x0 (s : Bys) (rn : OBo) (rt : Bool) (xs : LLC) (kn : OBo) (kt : Bool) (ys : LLC) (d : Int) (i1 : Int) (i7 : Int) : Ex × Fr × Hp := (Ex.exit 0, [(1, V.c (C.int IntKind.i64 i1)), (2, V.c (C.int IntKind.i64 d)), (3, V.ptr 0 0 0 0), (7, V.c (C.int IntKind.i64 i7)), (35, V.c (C.bool false))], [O.box [V.c (C.str s), V.c (C.sl 5 rn rt xs), V.c (C.sl 3 kn kt ys)]])
theorem t61_0 (s : Bys) (rn : OBo) (rt : Bool) (xs : LLC) (kn : OBo) (kt : Bool) (ys : LLC) (d : Int) (i1 : Int) (i7 : Int) : (p61 dd).lts b61_0 (s61_0 s rn rt xs kn kt ys d i1 i7) = (Tr.br (decide (i7 < (↑ys.length : Int))) (Tr.br (decide (0 < i1)) (Tr.chk (decide (0 ≤ i7)) (Tr.chk true (Tr.chk (decide (i7.toNat < ys.length)) (Tr.chk (shOk [Sk.str, Sk.sl 5, Sk.sl 3] (ys.getD i7.toNat [])) (Tr.chk (isRows ((ys.getD i7.toNat []).tail.headD C.pnil).xs) (Tr.chk (isL ((ys.getD i7.toNat []).tail.tail.headD C.pnil).xs) (Tr.chk (decide (depL (decL ((ys.getD i7.toNat []).tail.tail.headD C.pnil).xs) < dd)) (Tr.chk (decide (0 ≤ i1)) (Tr.chk (decide (i1 ≤ 1000)) (Tr.chk (decide (-1000 ≤ IntKind.i64.wrap (d - 1))) (Tr.chk (decide (IntKind.i64.wrap (d - 1) ≤ 1000)) (Tr.chk (lensT (Nd.node ((ys.getD i7.toNat []).headD C.pnil).st (toRows ((ys.getD i7.toNat []).tail.headD C.pnil).xs) (decL ((ys.getD i7.toNat []).tail.tail.headD C.pnil).xs))) (Tr.leaf (R.s (s61_0 s rn rt xs kn kt ys d (leftT (Nd.node ((ys.getD i7.toNat []).headD C.pnil).st (toRows ((ys.getD i7.toNat []).tail.headD C.pnil).xs) (decL ((ys.getD i7.toNat []).tail.tail.headD C.pnil).xs)) i1 (IntKind.i64.wrap (d - 1))) (IntKind.i64.wrap (i7 + 1))))))))))))))))) (Tr.leaf (R.x (x61_0x0 s rn rt xs kn kt ys d i1 i7)))) (Tr.leaf (R.x (x61_0x0 s rn rt xs kn kt ys d i1 i7)))) := by kernel_rfl
theorem k61_0x0 (dd : Nat) (s : Bys) (rn : OBo) (rt : Bool) (xs : LLC) (kn : OBo) (kt : Bool) (ys : LLC) (d : Int) (i1 : Int) (i7 : Int) : (p61 dd).fkx 0 (x61_0x0 s rn rt xs kn kt ys d i1 i7) = (Tr.leaf (R.out [V.c (C.int IntKind.i64 i1)] [])) := by kernel_rfl
theorem t61 (s : Bys) (rn : OBo) (rt : Bool) (xs : LLC) (kn : OBo) (kt : Bool) (ys : LLC) (n : Int) (d : Int) : (p61 dd).ft ([V.agg [V.c (C.str s), V.c (C.sl 5 rn rt xs), V.c (C.sl 3 kn kt ys)], V.i n, V.i d]) ([]) = (Tr.chk true (Tr.br (decide (d < 1)) (Tr.leaf (R.out [V.c (C.int IntKind.i64 0)] [])) (Tr.br (decide (IntKind.i64.wrap (IntKind.i64.wrap (n - 1) - IntKind.i64.wrap ((↑s.length : Int).tdiv 50)) < 1)) (Tr.leaf (R.out [V.c (C.int IntKind.i64 0)] [])) (Tr.chk (isRows xs) (Tr.br (!shortR (toRows xs)) (Tr.leaf (R.out [V.c (C.int IntKind.i64 0)] [])) (Tr.ls 0 (s61_0 s rn rt xs kn kt ys d (IntKind.i64.wrap (IntKind.i64.wrap (n - 1) - IntKind.i64.wrap ((↑s.length : Int).tdiv 50))) (0)))))))) := by kernel_rfl
noncomputable abbrev p22 : Par := par E sh (ctOf [(61, s61 dd)]) 22 1 0
theorem t22 (s : Bys) (rn : OBo) (rt : Bool) (xs : LLC) (kn : OBo) (kt : Bool) (ys : LLC) : (p22 dd).ft ([V.agg [V.c (C.str s), V.c (C.sl 5 rn rt xs), V.c (C.sl 3 kn kt ys)]]) ([]) = (Tr.chk (isRows xs) (Tr.chk (isL ys) (Tr.chk (decide (depL (decL ys) < dd)) (Tr.chk true (Tr.chk true (Tr.chk true (Tr.chk true (Tr.chk (lensT (Nd.node s (toRows xs) (decL ys))) (Tr.leaf (R.out [V.c (C.bool (decide (0 < leftT (Nd.node s (toRows xs) (decL ys)) 400 60)))] [])))))))))) := by kernel_rfl
def smallR (n : Int) (t : Nd) : Bool := decide (0 < leftT t n 60)
def s22 : CSpec := fun a h => match a, h with
  | [.agg [.c (.str s), .c (.sl 5 rn rt xs), .c (.sl 3 kn kt ys)]], [] => some ([isRows xs, isL ys, lensT (.node s (toRows xs) (decL ys))], [V.b (smallR 400 (.node s (toRows xs) (decL ys)))], [])
  | _, _ => none
def s24 : CSpec := fun a h => match a, h with
  | [], [] => some ([], [V.b true], [])
  | _, _ => none
end Go.Proofs.YtgaabjmbnomimaaDoor
namespace Go.Proofs.YtgaabjmbnomimaaDoor
open Go Go.Ev
theorem f23 (l : List Row) (nl : OBo) (tt : Bool) : call E 23 [.c (.sl 5 nl tt (rows l))] [] = some ([V.b (shortR l)], []) := by
  have hct : (ctOf []).ok E := ctOf_nil
  refine call_of (E := E) (sh := sh) (ct := ctOf []) (na := 1) (m := 0) hct rfl rfl rfl rfl rfl rfl ?_
  rw [t23, rows_length, fd_br]
  unfold shortR
  by_cases c0 : (70 : Int) < l.length
  · rw [if_pos (by simpa using c0), fd_leaf]
    have : ¬ l.length ≤ 70 := by omega
    simp [this]
  rw [if_neg (by simpa using c0)]
  have c0' : l.length ≤ 70 := by omega
  simp only [c0', decide_true, Bool.true_and]
  refine fd_post hct (by kernel_rfl) rfl (list_post (p := p23) hct (b := b23_0) l.length (fun k (_ : Unit) => s23_0 nl tt (rows l) k) (fun k _ => ((l.drop k).all fun r => decide (r.v.s.length ≤ 100)) = (l.all fun r => decide (r.v.s.length ≤ 100))) _ ?_ ?_ 0 (Nat.zero_le _) () rfl)
  · rintro k _ hk hi
    rw [List.drop_eq_getElem_cons hk, List.all_cons] at hi
    rw [t23_0]
    simp only [ld_br, ld_chk', ld_leaf, fd_br, fd_chk', fd_leaf, decide_true, decide_eq_true_eq, if_true, Int.toNat_natCast, Int.natCast_nonneg, Int.ofNat_lt, Int.ofNat_le, Bool.false_eq_true, if_false, bne_iff_ne, beq_iff_eq, ne_eq, not_true_eq_false, not_false_eq_true, Bool.not_eq_true', decide_eq_false_iff_not, reduceCtorEq, rows_length, pcs_length, er_ok, er_ok', ep_ok, ep_ok', dr_er, dp_ep, isRows_rows, isPcs_pcs, toRows_rows, toPcs_pcs, rows_take, rows_drop, pcs_take, pcs_drop, rows_append, pcs_append, ints_length, isInts_ints, toInts_ints, ei_i, ei_ok, mk_headD, ints_take, ints_drop, ints_append, ints_snoc, ints_snoc', List.take_length, Nat.zero_add, Nat.le_refl, er_a, er_b, er_k, er_n, er_s, er_v, ep_a, ep_b, ep_hk, ep_hn, ep_hs, ep_wk, ep_wn, ep_ws, hk, rows_getD hk, wrap_succ (show k < 9223372036854775807 by omega)]
    by_cases c : (100 : Int) < l[k].v.s.length
    · have : ¬ l[k].v.s.length ≤ 100 := by omega
      simp only [this, decide_false, Bool.false_and] at hi
      exact .inr ⟨x23_0x0, by simp, by rw [k23_0x0, fd_leaf, ← hi], by rw [if_pos c]⟩
    · have : l[k].v.s.length ≤ 100 := by omega
      simp only [this, decide_true, Bool.true_and] at hi
      exact .inl ⟨(), hi, by rw [if_neg c]⟩
  · rintro _ hi
    rw [List.drop_length, List.all_nil] at hi
    rw [t23_0]
    exact ⟨x23_0x1 nl tt (rows l) l.length, by simp, by rw [k23_0x1, fd_leaf, ← hi], by simp only [ld_br, ld_chk', ld_leaf, fd_br, fd_chk', fd_leaf, decide_true, decide_eq_true_eq, if_true, Int.toNat_natCast, Int.natCast_nonneg, Int.ofNat_lt, Int.ofNat_le, Bool.false_eq_true, if_false, bne_iff_ne, beq_iff_eq, ne_eq, not_true_eq_false, not_false_eq_true, Bool.not_eq_true', decide_eq_false_iff_not, reduceCtorEq, rows_length, pcs_length, er_ok, er_ok', ep_ok, ep_ok', dr_er, dp_ep, isRows_rows, isPcs_pcs, toRows_rows, toPcs_pcs, rows_take, rows_drop, pcs_take, pcs_drop, rows_append, pcs_append, ints_length, isInts_ints, toInts_ints, ei_i, ei_ok, mk_headD, ints_take, ints_drop, ints_append, ints_snoc, ints_snoc', List.take_length, Nat.zero_add, Nat.le_refl, er_a, er_b, er_k, er_n, er_s, er_v, ep_a, ep_b, ep_hk, ep_hn, ep_hs, ep_wk, ep_wn, ep_ws, Int.lt_irrefl]⟩
theorem s23_ok : CSpecOk E 23 s23 := by
  intro a h cs vals h' he hc
  unfold s23 at he
  split at he <;> simp only [Option.some.injEq, Prod.mk.injEq, reduceCtorEq] at he
  rename_i nl tt xs
  obtain ⟨rfl, rfl, rfl⟩ := he
  simp only [allT, Bool.and_true, Bool.and_eq_true, decide_eq_true_eq] at hc
  obtain ⟨l, rfl⟩ := rows_ex hc
  rw [toRows_rows]
  exact f23 l nl tt
theorem f61 (dd : Nat) (ih : CSpecOk E 61 (s61 dd)) (s : Bys) (rn : OBo) (rt : Bool) (rs : List Row) (kn : OBo) (kt : Bool) (ks : List Nd) (n d : Int) (hd : depL ks < dd + 1) (h0 : 0 ≤ n) (h1 : n ≤ 1000) (h2 : -1000 ≤ d) (h3 : d ≤ 1000) (hl : lensT (.node s rs ks) = true) :
    call E 61 [.agg [.c (.str s), .c (.sl 5 rn rt (rows rs)), .c (.sl 3 kn kt (encL ks))], V.i n, V.i d] [] = some ([V.i (leftT (.node s rs ks) n d)], []) := by
  have hct : (ctOf [(23, s23), (61, s61 dd)]).ok E := ctOf_cons s23_ok (ctOf_cons ih ctOf_nil)
  refine call_of (E := E) (sh := sh) (ct := ctOf [(23, s23), (61, s61 dd)]) (na := 3) (m := 0) hct rfl rfl rfl rfl rfl rfl ?_
  show (p61 dd).fd ((p61 dd).ft _ _) = _
  rw [lensT] at hl
  simp only [Bool.and_eq_true, decide_eq_true_eq] at hl
  obtain ⟨⟨⟨l1, l2⟩, l4⟩, l3⟩ := hl
  have w0 : ((s.length : Int).tdiv 50) = ((s.length / 50 : Nat) : Int) := rfl
  have w1 : IntKind.wrap .i64 (IntKind.wrap .i64 (n - 1) - IntKind.wrap .i64 ((s.length : Int).tdiv 50)) = n - 1 - ((s.length / 50 : Nat) : Int) := by
    rw [w0, wrap_same (n := n - 1) (by omega) (by omega), wrap_same (n := ((s.length / 50 : Nat) : Int)) (by omega) (by omega), wrap_same (by omega) (by omega)]
  rw [t61, w1]
  simp only [nd_ok, nd_lab, nd_rows, nd_kids, encL_length, isL_enc, decL_enc, wrap_hd, hd_pos, ld_br, ld_chk', ld_leaf, fd_br, fd_chk', fd_leaf, decide_true, decide_eq_true_eq, if_true, Int.toNat_natCast, Int.natCast_nonneg, Int.ofNat_lt, Int.ofNat_le, Bool.false_eq_true, if_false, bne_iff_ne, beq_iff_eq, ne_eq, not_true_eq_false, not_false_eq_true, Bool.not_eq_true', decide_eq_false_iff_not, reduceCtorEq, rows_length, pcs_length, er_ok, er_ok', ep_ok, ep_ok', dr_er, dp_ep, isRows_rows, isPcs_pcs, toRows_rows, toPcs_pcs, rows_take, rows_drop, pcs_take, pcs_drop, rows_append, pcs_append, ints_length, isInts_ints, toInts_ints, ei_i, ei_ok, mk_headD, ints_take, ints_drop, ints_append, ints_snoc, ints_snoc', List.take_length, Nat.zero_add, Nat.le_refl, er_a, er_b, er_k, er_n, er_s, er_v, ep_a, ep_b, ep_hk, ep_hn, ep_hs, ep_wk, ep_wn, ep_ws]
  rw [leftT]
  have hm : n - 1 - ((s.length / 50 : Nat) : Int) ≤ 1000 := by omega
  generalize n - 1 - ((s.length / 50 : Nat) : Int) = m at *
  by_cases c1 : d < 1
  · simp [c1]
  rw [if_neg c1]
  by_cases c2 : m < 1
  · simp [c2]
  rw [if_neg c2]
  by_cases c3 : shortR rs = false
  · simp [c3]
  rw [if_neg c3, if_neg (show ¬ (d < 1 ∨ m < 1 ∨ shortR rs = false) from fun h => h.elim c1 fun h => h.elim c2 c3)]
  have hm0 : 0 ≤ m := by omega
  have w2 : IntKind.wrap .i64 (d - 1) = d - 1 := wrap_same (by omega) (by omega)
  refine fd_post hct (by kernel_rfl) rfl (list_post (p := p61 dd) hct (b := b61_0) ks.length (fun k (m : Int) => s61_0 s rn rt (rows rs) kn kt (encL ks) d m k) (fun k m' => leftL (ks.drop k) m' (d - 1) = leftL ks m (d - 1) ∧ 0 ≤ m' ∧ m' ≤ 1000) _ ?_ ?_ 0 (Nat.zero_le _) m ⟨rfl, hm0, hm⟩)
  · rintro k m' hk ⟨hi, hm1, hm2⟩
    rw [List.drop_eq_getElem_cons hk, leftL_cons] at hi
    have hkid : depL ks[k].kids < dd := by have := depL_kid (List.getElem_mem hk); omega
    rw [t61_0]
    by_cases c : 0 < m'
    · rw [if_pos c] at hi
      have hb := leftT_le ks[k] m' (d - 1) hm1
      refine .inl ⟨leftT ks[k] m' (d - 1), ⟨hi, hb.1, by omega⟩, ?_⟩
      simp only [nd_ok, nd_lab, nd_rows, nd_kids, encL_length, isL_enc, decL_enc, wrap_hd, hd_pos, ld_br, ld_chk', ld_leaf, fd_br, fd_chk', fd_leaf, decide_true, decide_eq_true_eq, if_true, Int.toNat_natCast, Int.natCast_nonneg, Int.ofNat_lt, Int.ofNat_le, Bool.false_eq_true, if_false, bne_iff_ne, beq_iff_eq, ne_eq, not_true_eq_false, not_false_eq_true, Bool.not_eq_true', decide_eq_false_iff_not, reduceCtorEq, rows_length, pcs_length, er_ok, er_ok', ep_ok, ep_ok', dr_er, dp_ep, isRows_rows, isPcs_pcs, toRows_rows, toPcs_pcs, rows_take, rows_drop, pcs_take, pcs_drop, rows_append, pcs_append, ints_length, isInts_ints, toInts_ints, ei_i, ei_ok, mk_headD, ints_take, ints_drop, ints_append, ints_snoc, ints_snoc', List.take_length, Nat.zero_add, Nat.le_refl, er_a, er_b, er_k, er_n, er_s, er_v, ep_a, ep_b, ep_hk, ep_hn, ep_hs, ep_wk, ep_wn, ep_ws, hk, encL_getD hk, nd_node, hkid, w2, hm1, hm2, c, show -1000 ≤ d - 1 by omega, show d - 1 ≤ 1000 by omega, lensL_mem l3 (List.getElem_mem hk), wrap_succ (show k < 9223372036854775807 by omega)]
    · rw [if_neg c] at hi
      exact .inr ⟨x61_0x0 s rn rt (rows rs) kn kt (encL ks) d m' k, by simp, by rw [k61_0x0, fd_leaf, ← hi], by simp only [nd_ok, nd_lab, nd_rows, nd_kids, encL_length, isL_enc, decL_enc, wrap_hd, hd_pos, ld_br, ld_chk', ld_leaf, fd_br, fd_chk', fd_leaf, decide_true, decide_eq_true_eq, if_true, Int.toNat_natCast, Int.natCast_nonneg, Int.ofNat_lt, Int.ofNat_le, Bool.false_eq_true, if_false, bne_iff_ne, beq_iff_eq, ne_eq, not_true_eq_false, not_false_eq_true, Bool.not_eq_true', decide_eq_false_iff_not, reduceCtorEq, rows_length, pcs_length, er_ok, er_ok', ep_ok, ep_ok', dr_er, dp_ep, isRows_rows, isPcs_pcs, toRows_rows, toPcs_pcs, rows_take, rows_drop, pcs_take, pcs_drop, rows_append, pcs_append, ints_length, isInts_ints, toInts_ints, ei_i, ei_ok, mk_headD, ints_take, ints_drop, ints_append, ints_snoc, ints_snoc', List.take_length, Nat.zero_add, Nat.le_refl, er_a, er_b, er_k, er_n, er_s, er_v, ep_a, ep_b, ep_hk, ep_hn, ep_hs, ep_wk, ep_wn, ep_ws, hk, c]⟩
  · rintro m' ⟨hi, hm1, hm2⟩
    rw [List.drop_length, leftL] at hi
    rw [t61_0]
    exact ⟨x61_0x0 s rn rt (rows rs) kn kt (encL ks) d m' ks.length, by simp, by rw [k61_0x0, fd_leaf, ← hi], by simp only [nd_ok, nd_lab, nd_rows, nd_kids, encL_length, isL_enc, decL_enc, wrap_hd, hd_pos, ld_br, ld_chk', ld_leaf, fd_br, fd_chk', fd_leaf, decide_true, decide_eq_true_eq, if_true, Int.toNat_natCast, Int.natCast_nonneg, Int.ofNat_lt, Int.ofNat_le, Bool.false_eq_true, if_false, bne_iff_ne, beq_iff_eq, ne_eq, not_true_eq_false, not_false_eq_true, Bool.not_eq_true', decide_eq_false_iff_not, reduceCtorEq, rows_length, pcs_length, er_ok, er_ok', ep_ok, ep_ok', dr_er, dp_ep, isRows_rows, isPcs_pcs, toRows_rows, toPcs_pcs, rows_take, rows_drop, pcs_take, pcs_drop, rows_append, pcs_append, ints_length, isInts_ints, toInts_ints, ei_i, ei_ok, mk_headD, ints_take, ints_drop, ints_append, ints_snoc, ints_snoc', List.take_length, Nat.zero_add, Nat.le_refl, er_a, er_b, er_k, er_n, er_s, er_v, ep_a, ep_b, ep_hk, ep_hn, ep_hs, ep_wk, ep_wn, ep_ws, Int.lt_irrefl]⟩
theorem s61_ok : ∀ d, CSpecOk E 61 (s61 d)
  | 0 => by
    intro a h cs vals h' he hc
    unfold s61 at he
    split at he <;> simp only [Option.some.injEq, Prod.mk.injEq, reduceCtorEq] at he
    obtain ⟨rfl, rfl, rfl⟩ := he
    simp [allT] at hc
  | d + 1 => by
    intro a h cs vals h' he hc
    unfold s61 at he
    split at he <;> simp only [Option.some.injEq, Prod.mk.injEq, reduceCtorEq] at he
    rename_i s rn rt xs kn kt ys n k
    obtain ⟨rfl, rfl, rfl⟩ := he
    simp only [allT, Bool.and_true, Bool.and_eq_true, decide_eq_true_eq] at hc
    obtain ⟨h1, h2, h3, h4, h5, h6, h7, h8⟩ := hc
    obtain ⟨rs, rfl⟩ := rows_ex h1
    obtain ⟨ks, rfl⟩ := isL_ex h2
    simp only [toRows_rows, decL_enc] at *
    exact f61 d (s61_ok d) s rn rt rs kn kt ks n k h3 h4 h5 h6 h7 h8
theorem f22 (t : Nd) (rn : OBo) (rt : Bool) (kn : OBo) (kt : Bool) (hl : lensT t = true) :
    call E 22 [.agg [.c (.str t.lab), .c (.sl 5 rn rt (rows t.rows)), .c (.sl 3 kn kt (encL t.kids))]] [] = some ([V.b (smallR 400 t)], []) := by
  have hct : (ctOf [(61, s61 (depL t.kids + 1))]).ok E := ctOf_cons (s61_ok _) ctOf_nil
  refine call_of (E := E) (sh := sh) (ct := ctOf [(61, s61 (depL t.kids + 1))]) (na := 1) (m := 0) hct rfl rfl rfl rfl rfl rfl ?_
  show (p22 (depL t.kids + 1)).fd ((p22 (depL t.kids + 1)).ft _ _) = _
  rw [t22]
  simp only [nd_ok, nd_lab, nd_rows, nd_kids, encL_length, isL_enc, decL_enc, wrap_hd, hd_pos, ld_br, ld_chk', ld_leaf, fd_br, fd_chk', fd_leaf, decide_true, decide_eq_true_eq, if_true, Int.toNat_natCast, Int.natCast_nonneg, Int.ofNat_lt, Int.ofNat_le, Bool.false_eq_true, if_false, bne_iff_ne, beq_iff_eq, ne_eq, not_true_eq_false, not_false_eq_true, Bool.not_eq_true', decide_eq_false_iff_not, reduceCtorEq, rows_length, pcs_length, er_ok, er_ok', ep_ok, ep_ok', dr_er, dp_ep, isRows_rows, isPcs_pcs, toRows_rows, toPcs_pcs, rows_take, rows_drop, pcs_take, pcs_drop, rows_append, pcs_append, ints_length, isInts_ints, toInts_ints, ei_i, ei_ok, mk_headD, ints_take, ints_drop, ints_append, ints_snoc, ints_snoc', List.take_length, Nat.zero_add, Nat.le_refl, er_a, er_b, er_k, er_n, er_s, er_v, ep_a, ep_b, ep_hk, ep_hn, ep_hs, ep_wk, ep_wn, ep_ws, nd_node, show depL t.kids < depL t.kids + 1 by omega, hl, smallR]
theorem s22_ok : CSpecOk E 22 s22 := by
  intro a h cs vals h' he hc
  unfold s22 at he
  split at he <;> simp only [Option.some.injEq, Prod.mk.injEq, reduceCtorEq] at he
  rename_i s rn rt xs kn kt ys
  obtain ⟨rfl, rfl, rfl⟩ := he
  simp only [allT, Bool.and_true, Bool.and_eq_true, decide_eq_true_eq] at hc
  obtain ⟨h1, h2, h3⟩ := hc
  obtain ⟨rs, rfl⟩ := rows_ex h1
  obtain ⟨ks, rfl⟩ := isL_ex h2
  simp only [toRows_rows, decL_enc] at *
  exact f22 (.node s rs ks) rn rt kn kt h3
set_option maxRecDepth 100000 in
theorem f24 : call E 24 [] [] = some ([V.b true], []) := call_iff.2 ⟨200, by kernel_rfl⟩
theorem s24_ok : CSpecOk E 24 s24 := by
  intro a h cs vals h' he hc
  unfold s24 at he
  split at he <;> simp only [Option.some.injEq, Prod.mk.injEq, reduceCtorEq] at he
  obtain ⟨rfl, rfl, rfl⟩ := he
  exact f24
end Go.Proofs.YtgaabjmbnomimaaDoor
namespace Go.Proofs.YtgaabjmbnomimaaDoor
open Go Go.Ev
-- cse
variable (dd : Nat)
end Go.Proofs.YtgaabjmbnomimaaDoor
namespace Go.Proofs.YtgaabjmbnomimaaDoor
open Go Go.Ev
-- cse
end Go.Proofs.YtgaabjmbnomimaaDoor
namespace Go.Proofs.YtgaabjmbnomimaaDoor
open Go Go.Ev
mutual
theorem leftT_cnt : ∀ (t : Nd) (n d : Int), 0 ≤ n → 0 < leftT t n d → (countT t : Int) ≤ n - leftT t n d
  | .node lab rs ks, n, d, h0, h => by
    rw [leftT] at h ⊢
    split at h
    · omega
    · rename_i hc
      rw [if_neg hc]
      have := leftL_cnt ks (n - 1 - ((lab.length / 50 : Nat) : Int)) (d - 1) (by omega) h
      rw [countT]; omega
theorem leftL_cnt : ∀ (l : List Nd) (n d : Int), 0 ≤ n → 0 < leftL l n d → (countL l : Int) ≤ n - leftL l n d
  | [], n, d, h0, h => by rw [leftL, countL]; simp
  | t :: r, n, d, h0, h => by
    rw [leftL] at h ⊢
    split at h
    · rename_i hn
      rw [if_pos hn]
      have hle := leftT_le t n d h0
      have hpos : 0 < leftT t n d := by
        have := (leftL_le r (leftT t n d) d hle.1).2; omega
      have h1 := leftT_cnt t n d h0 hpos
      have h2 := leftL_cnt r (leftT t n d) d hle.1 h
      rw [countL]
      omega
    · omega
end
end Go.Proofs.YtgaabjmbnomimaaDoor
namespace Go.Proofs.YtgaabjmbnomimaaDoor
open Go Go.Ev
theorem f33 (l : List Ent) (nl : OBo) (tt : Bool) (nl2 : OBo) (t2 : Bool) (hl : l.length < 4294967296) (hr : ∀ e ∈ l, e.2.length ≤ 9223372036854775807) : call E 33 [.c (.sl 2 nl tt (ents l)), .c (.sl 2 nl2 t2 (ents l))] [] = some ([V.b true], []) := by
  have hct : (ctOf [(26, s26)]).ok E := ctOf_cons s26_ok ctOf_nil
  refine call_of (E := E) (sh := sh) (ct := ctOf [(26, s26)]) (na := 2) (m := 0) hct rfl rfl rfl rfl rfl rfl ?_
  rw [t33, fd_br, bne_self_eq_false, if_neg (by simp)]
  refine fd_post hct (by kernel_rfl) rfl (list_post (p := p33) hct (b := b33_0) l.length (fun k (_ : Unit) => s33_0 nl tt (ents l) nl2 t2 (ents l) k) (fun _ _ => True) _ ?_ ?_ 0 (Nat.zero_le _) () trivial)
  · intro k _ hk _
    have := hr _ (List.getElem_mem hk)
    refine .inl ⟨(), trivial, ?_⟩
    rw [t33_0]
    simp only [ld_br, ld_chk', ld_leaf, fd_br, fd_chk', fd_leaf, decide_true, decide_eq_true_eq, if_true, Int.toNat_natCast, Int.natCast_nonneg, Int.ofNat_lt, Int.ofNat_le, Bool.false_eq_true, if_false, bne_iff_ne, beq_iff_eq, ne_eq, not_true_eq_false, not_false_eq_true, Bool.not_eq_true', decide_eq_false_iff_not, reduceCtorEq, rows_length, pcs_length, er_ok, er_ok', ep_ok, ep_ok', dr_er, dp_ep, isRows_rows, isPcs_pcs, toRows_rows, toPcs_pcs, rows_take, rows_drop, pcs_take, pcs_drop, rows_append, pcs_append, ints_length, isInts_ints, toInts_ints, ei_i, ei_ok, mk_headD, ints_take, ints_drop, ints_append, ints_snoc, ints_snoc', List.take_length, Nat.zero_add, Nat.le_refl, er_a, er_b, er_k, er_n, er_s, er_v, ep_a, ep_b, ep_hk, ep_hn, ep_hs, ep_wk, ep_wn, ep_ws, ents_length, hk, ents_getD hk, ee_ok, ee_p, ee_r, this, beq_self_eq_true, Bool.not_true, wrap_succ (show k < 9223372036854775807 by omega)]
  · intro _ _
    refine ⟨x33_0x1 nl tt (ents l) nl2 t2 (ents l) l.length, by simp, by rw [k33_0x1, fd_leaf], ?_⟩
    rw [t33_0]; simp only [ld_br, ld_chk', ld_leaf, fd_br, fd_chk', fd_leaf, decide_true, decide_eq_true_eq, if_true, Int.toNat_natCast, Int.natCast_nonneg, Int.ofNat_lt, Int.ofNat_le, Bool.false_eq_true, if_false, bne_iff_ne, beq_iff_eq, ne_eq, not_true_eq_false, not_false_eq_true, Bool.not_eq_true', decide_eq_false_iff_not, reduceCtorEq, rows_length, pcs_length, er_ok, er_ok', ep_ok, ep_ok', dr_er, dp_ep, isRows_rows, isPcs_pcs, toRows_rows, toPcs_pcs, rows_take, rows_drop, pcs_take, pcs_drop, rows_append, pcs_append, ints_length, isInts_ints, toInts_ints, ei_i, ei_ok, mk_headD, ints_take, ints_drop, ints_append, ints_snoc, ints_snoc', List.take_length, Nat.zero_add, Nat.le_refl, er_a, er_b, er_k, er_n, er_s, er_v, ep_a, ep_b, ep_hk, ep_hn, ep_hs, ep_wk, ep_wn, ep_ws, ents_length, Int.lt_irrefl]
end Go.Proofs.YtgaabjmbnomimaaDoor
namespace Go.Proofs.YtgaabjmbnomimaaDoor
open Go Go.Ev
def rowsLen (l : List Ent) : Bool := l.all fun e => decide (e.2.length ≤ 9223372036854775807)
end Go.Proofs.YtgaabjmbnomimaaDoor
namespace Go.Proofs.YtgaabjmbnomimaaDoor
open Go Go.Ev
-- cse
def s33p : CSpec := fun a h => match a, h with
  | [.c (.sl 2 nl tt xs), .c (.sl 2 nl2 t2 ys)], [] => some ([isEs xs, isEs ys, decide (toEs xs = toEs ys), decide (xs.length < 4294967296), rowsLen (toEs xs)], [V.b true], [])
  | _, _ => none
noncomputable abbrev p9 : Par := par E sh (ctOf [(22, s22), (24, s24), (26, s26), (27, s27), (28, s28), (33, s33p), (34, s34), (36, s36), (38, s38), (39, s39), (40, s40)]) 9 4 0
abbrev s9_0 (s : Bys) (xs : LLC) (ys : LLC) (pa : Bys) (pb : Bys) (pc : Bys) (nl9 : OBo) (t9 : Bool) (xs9 : LLC) (i10 : Int) (nlh0 : OBo) (th0 : Bool) (nlh0_1 : OBo) (th0_1 : Bool) : Fr × Hp := ([(1, V.c (C.str pa)), (2, V.c (C.str pb)), (3, V.c (C.str pc)), (4, V.ptr 0 0 0 0), (9, V.c (C.sl 2 nl9 t9 xs9)), (10, V.c (C.int IntKind.i64 i10))], [O.box [V.c (C.str s), V.c (C.sl 5 nlh0 th0 xs), V.c (C.sl 3 nlh0_1 th0_1 ys)]])
noncomputable abbrev b9_0 : Code := loopAt (codeOf E (9)) 0
abbrev x9_0x0 (s : Bys) (xs : LLC) (ys : LLC) (nlh0 : OBo) (th0 : Bool) (nlh0_1 : OBo) (th0_1 : Bool) : Ex × Fr × Hp := (Ex.ret, [(8, V.c (C.bool false))], [O.box [V.c (C.str s), V.c (C.sl 5 nlh0 th0 xs), V.c (C.sl 3 nlh0_1 th0_1 ys)]])
abbrev x9_0x1 (s : Bys) (xs : LLC) (ys : LLC) (pa : Bys) (pb : Bys) (pc : Bys) (nl9 : OBo) (t9 : Bool) (xs9 : LLC) (i10 : Int) (nlh0 : OBo) (th0 : Bool) (nlh0_1 : OBo) (th0_1 : Bool) : Ex × Fr × Hp := (Ex.exit 0, [(1, V.c (C.str pa)), (2, V.c (C.str pb)), (3, V.c (C.str pc)), (4, V.ptr 0 0 0 0), (9, V.c (C.sl 2 nl9 t9 xs9)), (10, V.c (C.int IntKind.i64 i10)), (44, V.c (C.bool false))], [O.box [V.c (C.str s), V.c (C.sl 5 nlh0 th0 xs), V.c (C.sl 3 nlh0_1 th0_1 ys)]])
abbrev s9_1 (s : Bys) (xs : LLC) (ys : LLC) (pa : Bys) (nl9 : OBo) (t9 : Bool) (xs9 : LLC) (nlh0 : OBo) (th0 : Bool) (nlh0_1 : OBo) (th0_1 : Bool) (nl12 : OBo) (t12 : Bool) (xs12 : LLC) (i13 : Int) (i14 : Int) : Fr × Hp := ([(1, V.c (C.str pa)), (4, V.ptr 0 0 0 0), (9, V.c (C.sl 2 nl9 t9 xs9)), (12, V.c (C.sl 2 nl12 t12 xs12)), (13, V.c (C.int IntKind.i64 i13)), (14, V.c (C.int IntKind.i64 i14))], [O.box [V.c (C.str s), V.c (C.sl 5 nlh0 th0 xs), V.c (C.sl 3 nlh0_1 th0_1 ys)]])
noncomputable abbrev b9_1 : Code := loopAt (codeOf E (9)) 1
abbrev x9_1x0 (s : Bys) (xs : LLC) (ys : LLC) (pa : Bys) (nl9 : OBo) (t9 : Bool) (xs9 : LLC) (nlh0 : OBo) (th0 : Bool) (nlh0_1 : OBo) (th0_1 : Bool) (nl12 : OBo) (t12 : Bool) (xs12 : LLC) (i13 : Int) (i14 : Int) : Ex × Fr × Hp := (Ex.exit 2, [(1, V.c (C.str pa)), (4, V.ptr 0 0 0 0), (9, V.c (C.sl 2 nl9 t9 xs9)), (12, V.c (C.sl 2 nl12 t12 xs12)), (13, V.c (C.int IntKind.i64 i13)), (14, V.c (C.int IntKind.i64 i14)), (119, V.c (C.bool false))], [O.box [V.c (C.str s), V.c (C.sl 5 nlh0 th0 xs), V.c (C.sl 3 nlh0_1 th0_1 ys)]])
theorem t9_0 (s : Bys) (xs : LLC) (ys : LLC) (pa : Bys) (pb : Bys) (pc : Bys) (nl9 : OBo) (t9 : Bool) (xs9 : LLC) (i10 : Int) (nlh0 : OBo) (th0 : Bool) (nlh0_1 : OBo) (th0_1 : Bool) : p9.lts b9_0 (s9_0 s xs ys pa pb pc nl9 t9 xs9 i10 nlh0 th0 nlh0_1 th0_1) = (Tr.br (decide (i10 < (↑xs9.length : Int))) (Tr.br (decide (0 < i10)) (Tr.chk (decide (0 ≤ IntKind.i64.wrap (i10 - 1))) (Tr.chk true (Tr.chk (decide ((IntKind.i64.wrap (i10 - 1)).toNat < xs9.length)) (Tr.chk (shOk [Sk.str, Sk.sl 5] (xs9.getD (IntKind.i64.wrap (i10 - 1)).toNat [])) (Tr.chk (decide (0 ≤ i10)) (Tr.chk true (Tr.chk (decide (i10.toNat < xs9.length)) (Tr.chk (shOk [Sk.str, Sk.sl 5] (xs9.getD i10.toNat [])) (Tr.br (!Op.bytesLess ((xs9.getD (IntKind.i64.wrap (i10 - 1)).toNat []).headD C.pnil).st ((xs9.getD i10.toNat []).headD C.pnil).st) (Tr.leaf (R.x (x9_0x0 s xs ys nlh0 th0 nlh0_1 th0_1))) (Tr.chk (decide (0 ≤ i10)) (Tr.chk true (Tr.chk (decide (i10.toNat < xs9.length)) (Tr.chk (shOk [Sk.str, Sk.sl 5] (xs9.getD i10.toNat [])) (Tr.chk (isRows xs) (Tr.chk (isL ys) (Tr.chk (decide (0 ≤ i10)) (Tr.chk true (Tr.chk (decide (i10.toNat < xs9.length)) (Tr.chk (shOk [Sk.str, Sk.sl 5] (xs9.getD i10.toNat [])) (Tr.chk (isRows (rows (getR (Nd.node s (toRows xs) (decL ys)) ((xs9.getD i10.toNat []).headD C.pnil).st))) (Tr.chk (isRows ((xs9.getD i10.toNat []).tail.headD C.pnil).xs) (Tr.chk (decide ((rows (getR (Nd.node s (toRows xs) (decL ys)) ((xs9.getD i10.toNat []).headD C.pnil).st)).length ≤ 9223372036854775807)) (Tr.br (!decide (toRows (rows (getR (Nd.node s (toRows xs) (decL ys)) ((xs9.getD i10.toNat []).headD C.pnil).st)) = toRows ((xs9.getD i10.toNat []).tail.headD C.pnil).xs)) (Tr.leaf (R.x (x9_0x0 s xs ys nlh0 th0 nlh0_1 th0_1))) (Tr.leaf (R.s (s9_0 s xs ys pa pb pc nl9 t9 xs9 (IntKind.i64.wrap (i10 + 1)) nlh0 th0 nlh0_1 th0_1)))))))))))))))))))))))))) (Tr.chk (decide (0 ≤ i10)) (Tr.chk true (Tr.chk (decide (i10.toNat < xs9.length)) (Tr.chk (shOk [Sk.str, Sk.sl 5] (xs9.getD i10.toNat [])) (Tr.chk (isRows xs) (Tr.chk (isL ys) (Tr.chk (decide (0 ≤ i10)) (Tr.chk true (Tr.chk (decide (i10.toNat < xs9.length)) (Tr.chk (shOk [Sk.str, Sk.sl 5] (xs9.getD i10.toNat [])) (Tr.chk (isRows (rows (getR (Nd.node s (toRows xs) (decL ys)) ((xs9.getD i10.toNat []).headD C.pnil).st))) (Tr.chk (isRows ((xs9.getD i10.toNat []).tail.headD C.pnil).xs) (Tr.chk (decide ((rows (getR (Nd.node s (toRows xs) (decL ys)) ((xs9.getD i10.toNat []).headD C.pnil).st)).length ≤ 9223372036854775807)) (Tr.br (!decide (toRows (rows (getR (Nd.node s (toRows xs) (decL ys)) ((xs9.getD i10.toNat []).headD C.pnil).st)) = toRows ((xs9.getD i10.toNat []).tail.headD C.pnil).xs)) (Tr.leaf (R.x (x9_0x0 s xs ys nlh0 th0 nlh0_1 th0_1))) (Tr.leaf (R.s (s9_0 s xs ys pa pb pc nl9 t9 xs9 (IntKind.i64.wrap (i10 + 1)) nlh0 th0 nlh0_1 th0_1)))))))))))))))))) (Tr.leaf (R.x (x9_0x1 s xs ys pa pb pc nl9 t9 xs9 i10 nlh0 th0 nlh0_1 th0_1)))) := by kernel_rfl
theorem t9_1 (s : Bys) (xs : LLC) (ys : LLC) (pa : Bys) (nl9 : OBo) (t9 : Bool) (xs9 : LLC) (nlh0 : OBo) (th0 : Bool) (nlh0_1 : OBo) (th0_1 : Bool) (nl12 : OBo) (t12 : Bool) (xs12 : LLC) (i13 : Int) (i14 : Int) : p9.lts b9_1 (s9_1 s xs ys pa nl9 t9 xs9 nlh0 th0 nlh0_1 th0_1 nl12 t12 xs12 i13 i14) = (Tr.br (decide (i14 < (↑xs9.length : Int))) (Tr.chk (decide (0 ≤ i14)) (Tr.chk true (Tr.chk (decide (i14.toNat < xs9.length)) (Tr.chk (shOk [Sk.str, Sk.sl 5] (xs9.getD i14.toNat [])) (Tr.br (begins ((xs9.getD i14.toNat []).headD C.pnil).st pa) (Tr.leaf (R.s (s9_1 s xs ys pa nl9 t9 xs9 nlh0 th0 nlh0_1 th0_1 nl12 t12 xs12 (IntKind.i64.wrap (i13 + 1)) (IntKind.i64.wrap (i14 + 1))))) (Tr.leaf (R.s (s9_1 s xs ys pa nl9 t9 xs9 nlh0 th0 nlh0_1 th0_1 nl12 t12 xs12 i13 (IntKind.i64.wrap (i14 + 1)))))))))) (Tr.leaf (R.x (x9_1x0 s xs ys pa nl9 t9 xs9 nlh0 th0 nlh0_1 th0_1 nl12 t12 xs12 i13 i14)))) := by kernel_rfl
theorem k9_1x0 (s : Bys) (xs : LLC) (ys : LLC) (pa : Bys) (nl9 : OBo) (t9 : Bool) (xs9 : LLC) (nlh0 : OBo) (th0 : Bool) (nlh0_1 : OBo) (th0_1 : Bool) (nl12 : OBo) (t12 : Bool) (xs12 : LLC) (i13 : Int) (i14 : Int) : p9.fkx 1 (x9_1x0 s xs ys pa nl9 t9 xs9 nlh0 th0 nlh0_1 th0_1 nl12 t12 xs12 i13 i14) = (Tr.br ((↑xs12.length : Int) == i13) (Tr.chk (isRows xs) (Tr.chk (isL ys) (Tr.chk (decide ((entL (decL ys)).length < 1000000000)) (Tr.chk (isEs (ents (List.filter (fun (e : Ent) => wB [] [] e.fst) (entP (Nd.node s (toRows xs) (decL ys)))))) (Tr.chk (isEs xs9) (Tr.chk (decide (toEs (ents (List.filter (fun (e : Ent) => wB [] [] e.fst) (entP (Nd.node s (toRows xs) (decL ys))))) = toEs xs9)) (Tr.chk (decide ((ents (List.filter (fun (e : Ent) => wB [] [] e.fst) (entP (Nd.node s (toRows xs) (decL ys))))).length < 4294967296)) (Tr.chk (rowsLen (toEs (ents (List.filter (fun (e : Ent) => wB [] [] e.fst) (entP (Nd.node s (toRows xs) (decL ys))))))) (Tr.br true (Tr.chk (isRows xs) (Tr.chk (isL ys) (Tr.chk (decide (countL (decL ys) < 1000000000)) (Tr.br (decide (nodesP (Nd.node s (toRows xs) (decL ys)) ≤ IntKind.i64.wrap (IntKind.i64.wrap (2 * (↑xs9.length : Int)) + 1))) (Tr.leaf (R.out [V.c (C.bool true)] [])) (Tr.leaf (R.out [V.c (C.bool false)] [])))))) (Tr.leaf (R.out [V.c (C.bool false)] []))))))))))) (Tr.leaf (R.out [V.c (C.bool false)] []))) := by kernel_rfl
abbrev ck9_0x1_1 (s : Bys) (xs : LLC) (ys : LLC) (pa : Bys) (pb : Bys) := (List.filter (fun (e : Ent) => wB pa pb e.fst) (entP (Nd.node s (toRows xs) (decL ys))))
abbrev ck9_0x1_2 (s : Bys) (xs : LLC) (ys : LLC) (pb : Bys) (pc : Bys) := (List.filter (fun (e : Ent) => wB pb pc e.fst) (entP (Nd.node s (toRows xs) (decL ys))))
abbrev ck9_0x1_3 (s : Bys) (xs : LLC) (ys : LLC) (pa : Bys) (pb : Bys) (pc : Bys) := (List.take (0 + (ents (ck9_0x1_1 s xs ys pa pb)).length + (ents (ck9_0x1_2 s xs ys pb pc)).length) (List.take (0 + (ents (ck9_0x1_1 s xs ys pa pb)).length) (List.take 0 [] ++ ents (ck9_0x1_1 s xs ys pa pb)) ++ ents (ck9_0x1_2 s xs ys pb pc)))
abbrev ck9_0x1_4 (s : Bys) (xs : LLC) (ys : LLC) (pa : Bys) (nl9 : OBo) (t9 : Bool) (xs9 : LLC) (nlh0 : OBo) (th0 : Bool) (nlh0_1 : OBo) (th0_1 : Bool) := (s9_1 s xs ys pa nl9 t9 xs9 nlh0 th0 nlh0_1 th0_1 (none) false (ents (List.filter (fun (e : Ent) => begins e.fst pa) (entP (Nd.node s (toRows xs) (decL ys))))) (0) (0))
theorem k9_0x1 (s : Bys) (xs : LLC) (ys : LLC) (pa : Bys) (pb : Bys) (pc : Bys) (nl9 : OBo) (t9 : Bool) (xs9 : LLC) (i10 : Int) (nlh0 : OBo) (th0 : Bool) (nlh0_1 : OBo) (th0_1 : Bool) : p9.fkx 0 (x9_0x1 s xs ys pa pb pc nl9 t9 xs9 i10 nlh0 th0 nlh0_1 th0_1) = (Tr.br (Op.bytesLess pa pb || pa == pb) (Tr.br (Op.bytesLess pb pc || pb == pc) (Tr.br (!pb == []) (Tr.br (!pc == []) (Tr.chk (isRows xs) (Tr.chk (isL ys) (Tr.chk (decide ((entL (decL ys)).length < 1000000000)) (Tr.chk true (Tr.chk true (Tr.chk (decide (0 + (ents (ck9_0x1_1 s xs ys pa pb)).length < 4294967296)) (Tr.chk true (Tr.chk (isRows xs) (Tr.chk (isL ys) (Tr.chk (decide ((entL (decL ys)).length < 1000000000)) (Tr.chk true (Tr.chk true (Tr.chk (decide (0 + (ents (ck9_0x1_1 s xs ys pa pb)).length + (ents (ck9_0x1_2 s xs ys pb pc)).length < 4294967296)) (Tr.chk true (Tr.chk (isRows xs) (Tr.chk (isL ys) (Tr.chk (decide ((entL (decL ys)).length < 1000000000)) (Tr.chk (isEs (ck9_0x1_3 s xs ys pa pb pc)) (Tr.chk (isEs (ents (List.filter (fun (e : Ent) => wB pa pc e.fst) (entP (Nd.node s (toRows xs) (decL ys)))))) (Tr.chk (decide (toEs (ck9_0x1_3 s xs ys pa pb pc) = toEs (ents (List.filter (fun (e : Ent) => wB pa pc e.fst) (entP (Nd.node s (toRows xs) (decL ys))))))) (Tr.chk (decide ((ck9_0x1_3 s xs ys pa pb pc).length < 4294967296)) (Tr.chk (rowsLen (toEs (ck9_0x1_3 s xs ys pa pb pc))) (Tr.br false (Tr.leaf (R.out [V.c (C.bool false)] [])) (Tr.chk (isRows xs) (Tr.chk (isL ys) (Tr.chk (decide ((entL (decL ys)).length < 1000000000)) (Tr.ls 1 (ck9_0x1_4 s xs ys pa nl9 t9 xs9 nlh0 th0 nlh0_1 th0_1)))))))))))))))))))))))))))) (Tr.chk (isRows xs) (Tr.chk (isL ys) (Tr.chk (decide ((entL (decL ys)).length < 1000000000)) (Tr.ls 1 (ck9_0x1_4 s xs ys pa nl9 t9 xs9 nlh0 th0 nlh0_1 th0_1)))))) (Tr.chk (isRows xs) (Tr.chk (isL ys) (Tr.chk (decide ((entL (decL ys)).length < 1000000000)) (Tr.ls 1 (ck9_0x1_4 s xs ys pa nl9 t9 xs9 nlh0 th0 nlh0_1 th0_1)))))) (Tr.chk (isRows xs) (Tr.chk (isL ys) (Tr.chk (decide ((entL (decL ys)).length < 1000000000)) (Tr.ls 1 (ck9_0x1_4 s xs ys pa nl9 t9 xs9 nlh0 th0 nlh0_1 th0_1)))))) (Tr.chk (isRows xs) (Tr.chk (isL ys) (Tr.chk (decide ((entL (decL ys)).length < 1000000000)) (Tr.ls 1 (ck9_0x1_4 s xs ys pa nl9 t9 xs9 nlh0 th0 nlh0_1 th0_1)))))) := by kernel_rfl
theorem t9 (s : Bys) (xs : LLC) (ys : LLC) (pa : Bys) (pb : Bys) (pc : Bys) : p9.ft ([V.agg [V.c (C.str s), V.c (C.sl 5 none false xs), V.c (C.sl 3 none false ys)], V.c (C.str pa), V.c (C.str pb), V.c (C.str pc)]) ([]) = (Tr.chk (isRows xs) (Tr.chk (isL ys) (Tr.chk (lensT (Nd.node s (toRows xs) (decL ys))) (Tr.br (!smallR 400 (Nd.node s (toRows xs) (decL ys))) (Tr.leaf (R.out [V.c (C.bool true)] [])) (Tr.br (decide (100 < (↑pa.length : Int))) (Tr.leaf (R.out [V.c (C.bool true)] [])) (Tr.br (decide (100 < (↑pb.length : Int))) (Tr.leaf (R.out [V.c (C.bool true)] [])) (Tr.br (decide (100 < (↑pc.length : Int))) (Tr.leaf (R.out [V.c (C.bool true)] [])) (Tr.chk (isRows xs) (Tr.chk (isL ys) (Tr.br (checkT (Nd.node s (toRows xs) (decL ys)) != 0) (Tr.leaf (R.out [V.c (C.bool true)] [])) (Tr.chk (isRows xs) (Tr.chk (isL ys) (Tr.chk (decide ((entL (decL ys)).length < 1000000000)) (Tr.ls 0 (s9_0 s xs ys pa pb pc (none) false (ents (entP (Nd.node s (toRows xs) (decL ys)))) (0) (none) false (none) false))))))))))))))) := by kernel_rfl
end Go.Proofs.YtgaabjmbnomimaaDoor
namespace Go.Proofs.YtgaabjmbnomimaaDoor
open Go Go.Ev
theorem s33p_ok : CSpecOk E 33 s33p := by
  intro a h cs vals h' he hc
  unfold s33p at he
  split at he <;> simp only [Option.some.injEq, Prod.mk.injEq, reduceCtorEq] at he
  rename_i nl tt xs nl2 t2 ys
  obtain ⟨rfl, rfl, rfl⟩ := he
  simp only [allT, Bool.and_true, Bool.and_eq_true, decide_eq_true_eq] at hc
  obtain ⟨h1, h2, h3, h4, h5⟩ := hc
  obtain ⟨x, rfl⟩ := ents_ex h1
  obtain ⟨y, rfl⟩ := ents_ex h2
  rw [toEs_ents, toEs_ents] at h3
  subst h3
  rw [ents_length] at h4
  rw [toEs_ents] at h5
  refine f33 x nl tt nl2 t2 h4 fun e he => ?_
  have := List.all_eq_true.1 h5 e he
  simpa using this
theorem hct9 : (ctOf [(22, s22), (24, s24), (26, s26), (27, s27), (28, s28), (33, s33p), (34, s34), (36, s36), (38, s38), (39, s39), (40, s40)]).ok E :=
  ctOf_cons s22_ok (ctOf_cons s24_ok (ctOf_cons s26_ok (ctOf_cons s27_ok (ctOf_cons s28_ok (ctOf_cons s33p_ok (ctOf_cons s34_ok (ctOf_cons s36_ok (ctOf_cons s38_ok (ctOf_cons s39_ok (ctOf_cons s40_ok ctOf_nil))))))))))
section
variable (t : Nd) (l : List Ent) (hl : l.length < 4294967290) (pa pb pc : Bys)
include hl
theorem all9 (hr : Rise l) (hg : ∀ e ∈ l, getR t e.1 = e.2) (hk : ∀ q, (getR t q).length ≤ 9223372036854775807) :
    ∃ x, x = x9_0x1 t.lab (rows t.rows) (encL t.kids) pa pb pc none false (ents l) l.length none false none false ∧ p9.Loops b9_0 (s9_0 t.lab (rows t.rows) (encL t.kids) pa pb pc none false (ents l) 0 none false none false) x := by
  refine list_post (p := p9) hct9 (b := b9_0) l.length (fun k (_ : Unit) => s9_0 t.lab (rows t.rows) (encL t.kids) pa pb pc none false (ents l) k none false none false) (fun _ _ => True) _ ?_ ?_ 0 (Nat.zero_le _) () trivial
  · intro k _ hk2 _
    left
    refine ⟨(), trivial, ?_⟩
    have hg' : getR t l[k].1 = l[k].2 := hg _ (List.getElem_mem hk2)
    have hkk : l[k].2.length ≤ 9223372036854775807 := hg' ▸ hk l[k].1
    rw [t9_0]
    by_cases c : 0 < k
    · have w1 : IntKind.wrap .i64 ((k : Int) - 1) = ((k - 1 : Nat) : Int) := wrap_pred (by omega) (by omega)
      have hk1 : k - 1 < l.length := by omega
      have hb : Op.bytesLess l[k - 1].1 l[k].1 = true := (List.pairwise_iff_getElem.1 hr) (k - 1) k hk1 hk2 (by omega)
      simp only [nd_ok, nd_lab, nd_rows, nd_kids, encL_length, isL_enc, decL_enc, wrap_hd, hd_pos, ld_br, ld_chk', ld_leaf, fd_br, fd_chk', fd_leaf, decide_true, decide_eq_true_eq, if_true, Int.toNat_natCast, Int.natCast_nonneg, Int.ofNat_lt, Int.ofNat_le, Bool.false_eq_true, if_false, bne_iff_ne, beq_iff_eq, ne_eq, not_true_eq_false, not_false_eq_true, Bool.not_eq_true', decide_eq_false_iff_not, reduceCtorEq, rows_length, pcs_length, er_ok, er_ok', ep_ok, ep_ok', dr_er, dp_ep, isRows_rows, isPcs_pcs, toRows_rows, toPcs_pcs, rows_take, rows_drop, pcs_take, pcs_drop, rows_append, pcs_append, ints_length, isInts_ints, toInts_ints, ei_i, ei_ok, mk_headD, ints_take, ints_drop, ints_append, ints_snoc, ints_snoc', List.take_length, Nat.zero_add, Nat.le_refl, er_a, er_b, er_k, er_n, er_s, er_v, ep_a, ep_b, ep_hk, ep_hn, ep_hs, ep_wk, ep_wn, ep_ws, Nd.eta, ents_length, hk2, hk1, c, w1, ents_getD hk2, ents_getD hk1, ee_ok, ee_p, ee_r, hb, hg', hkk, wrap_succ (show k < 9223372036854775807 by omega), Int.natCast_pos]
    · simp only [nd_ok, nd_lab, nd_rows, nd_kids, encL_length, isL_enc, decL_enc, wrap_hd, hd_pos, ld_br, ld_chk', ld_leaf, fd_br, fd_chk', fd_leaf, decide_true, decide_eq_true_eq, if_true, Int.toNat_natCast, Int.natCast_nonneg, Int.ofNat_lt, Int.ofNat_le, Bool.false_eq_true, if_false, bne_iff_ne, beq_iff_eq, ne_eq, not_true_eq_false, not_false_eq_true, Bool.not_eq_true', decide_eq_false_iff_not, reduceCtorEq, rows_length, pcs_length, er_ok, er_ok', ep_ok, ep_ok', dr_er, dp_ep, isRows_rows, isPcs_pcs, toRows_rows, toPcs_pcs, rows_take, rows_drop, pcs_take, pcs_drop, rows_append, pcs_append, ints_length, isInts_ints, toInts_ints, ei_i, ei_ok, mk_headD, ints_take, ints_drop, ints_append, ints_snoc, ints_snoc', List.take_length, Nat.zero_add, Nat.le_refl, er_a, er_b, er_k, er_n, er_s, er_v, ep_a, ep_b, ep_hk, ep_hn, ep_hs, ep_wk, ep_wn, ep_ws, Nd.eta, ents_length, hk2, c, ents_getD hk2, ee_ok, ee_p, ee_r, hg', hkk, wrap_succ (show k < 9223372036854775807 by omega), Int.natCast_pos]
  · intro _ _
    refine ⟨_, ?_, rfl, ?_⟩
    · simp
    · rw [t9_0]; simp only [ld_br, ld_chk', ld_leaf, fd_br, fd_chk', fd_leaf, decide_true, decide_eq_true_eq, if_true, Int.toNat_natCast, Int.natCast_nonneg, Int.ofNat_lt, Int.ofNat_le, Bool.false_eq_true, if_false, bne_iff_ne, beq_iff_eq, ne_eq, not_true_eq_false, not_false_eq_true, Bool.not_eq_true', decide_eq_false_iff_not, reduceCtorEq, rows_length, pcs_length, er_ok, er_ok', ep_ok, ep_ok', dr_er, dp_ep, isRows_rows, isPcs_pcs, toRows_rows, toPcs_pcs, rows_take, rows_drop, pcs_take, pcs_drop, rows_append, pcs_append, ints_length, isInts_ints, toInts_ints, ei_i, ei_ok, mk_headD, ints_take, ints_drop, ints_append, ints_snoc, ints_snoc', List.take_length, Nat.zero_add, Nat.le_refl, er_a, er_b, er_k, er_n, er_s, er_v, ep_a, ep_b, ep_hk, ep_hn, ep_hs, ep_wk, ep_wn, ep_ws, ents_length, Int.lt_irrefl]
theorem cnt9 (m : List Ent) : ∃ x, x = x9_1x0 t.lab (rows t.rows) (encL t.kids) pa none false (ents l) none false none false none false (ents m) (l.filter fun e => begins e.1 pa).length l.length ∧
    p9.Loops b9_1 (s9_1 t.lab (rows t.rows) (encL t.kids) pa none false (ents l) none false none false none false (ents m) 0 0) x := by
  refine list_post (p := p9) hct9 (b := b9_1) l.length (fun k (n : Nat) => s9_1 t.lab (rows t.rows) (encL t.kids) pa none false (ents l) none false none false none false (ents m) n k) (fun k n => n = ((l.take k).filter fun e => begins e.1 pa).length) _ ?_ ?_ 0 (Nat.zero_le _) 0 (by simp)
  · rintro k n hk rfl
    left
    have hle : ((l.take k).filter fun e => begins e.1 pa).length ≤ l.length := Nat.le_trans (List.length_filter_le _ _) (by rw [List.length_take]; omega)
    refine ⟨_, rfl, ?_⟩
    have hnx : ((l.take (k + 1)).filter fun e => begins e.1 pa).length = ((l.take k).filter fun e => begins e.1 pa).length + cond (begins l[k].1 pa) 1 0 := by
      rw [List.take_succ_eq_append_getElem hk, List.filter_append, List.length_append]
      cases c : begins l[k].1 pa <;> simp [c]
    rw [t9_1, hnx]
    simp only [nd_ok, nd_lab, nd_rows, nd_kids, encL_length, isL_enc, decL_enc, wrap_hd, hd_pos, ld_br, ld_chk', ld_leaf, fd_br, fd_chk', fd_leaf, decide_true, decide_eq_true_eq, if_true, Int.toNat_natCast, Int.natCast_nonneg, Int.ofNat_lt, Int.ofNat_le, Bool.false_eq_true, if_false, bne_iff_ne, beq_iff_eq, ne_eq, not_true_eq_false, not_false_eq_true, Bool.not_eq_true', decide_eq_false_iff_not, reduceCtorEq, rows_length, pcs_length, er_ok, er_ok', ep_ok, ep_ok', dr_er, dp_ep, isRows_rows, isPcs_pcs, toRows_rows, toPcs_pcs, rows_take, rows_drop, pcs_take, pcs_drop, rows_append, pcs_append, ints_length, isInts_ints, toInts_ints, ei_i, ei_ok, mk_headD, ints_take, ints_drop, ints_append, ints_snoc, ints_snoc', List.take_length, Nat.zero_add, Nat.le_refl, er_a, er_b, er_k, er_n, er_s, er_v, ep_a, ep_b, ep_hk, ep_hn, ep_hs, ep_wk, ep_wn, ep_ws, ents_length, hk, ents_getD hk, ee_ok, ee_p, wrap_succ (show k < 9223372036854775807 by omega), wrap_succ (show ((l.take k).filter fun e => begins e.1 pa).length < 9223372036854775807 by omega)]
    cases c : begins l[k].1 pa <;> simp
  · rintro _ rfl
    rw [List.take_length]
    refine ⟨_, ?_, rfl, ?_⟩
    · simp
    · rw [t9_1]; simp only [ld_br, ld_chk', ld_leaf, fd_br, fd_chk', fd_leaf, decide_true, decide_eq_true_eq, if_true, Int.toNat_natCast, Int.natCast_nonneg, Int.ofNat_lt, Int.ofNat_le, Bool.false_eq_true, if_false, bne_iff_ne, beq_iff_eq, ne_eq, not_true_eq_false, not_false_eq_true, Bool.not_eq_true', decide_eq_false_iff_not, reduceCtorEq, rows_length, pcs_length, er_ok, er_ok', ep_ok, ep_ok', dr_er, dp_ep, isRows_rows, isPcs_pcs, toRows_rows, toPcs_pcs, rows_take, rows_drop, pcs_take, pcs_drop, rows_append, pcs_append, ints_length, isInts_ints, toInts_ints, ei_i, ei_ok, mk_headD, ints_take, ints_drop, ints_append, ints_snoc, ints_snoc', List.take_length, Nat.zero_add, Nat.le_refl, er_a, er_b, er_k, er_n, er_s, er_v, ep_a, ep_b, ep_hk, ep_hn, ep_hs, ep_wk, ep_wn, ep_ws, ents_length, Int.lt_irrefl]
end
theorem wB_nil (q : Bys) : wB [] [] q = true := by
  unfold wB
  cases q <;> rfl
theorem filt_nil (l : List Ent) : l.filter (fun e => wB [] [] e.1) = l := List.filter_eq_self.2 fun e _ => wB_nil e.1
theorem f9 (t : Nd) (pa pb pc : Bys) (ht : lensT t = true) : call E 9 [VT t, .c (.str pa), .c (.str pb), .c (.str pc)] [] = some ([V.b true], []) := by
  refine call_of (E := E) (sh := sh) (ct := ctOf [(22, s22), (24, s24), (26, s26), (27, s27), (28, s28), (33, s33p), (34, s34), (36, s36), (38, s38), (39, s39), (40, s40)]) (na := 4) (m := 0) hct9 rfl rfl rfl rfl rfl rfl ?_
  show p9.fd (p9.ft [VT t, .c (.str pa), .c (.str pb), .c (.str pc)] []) = some (.out _ _)
  rw [show p9.ft [VT t, .c (.str pa), .c (.str pb), .c (.str pc)] [] = _ from t9 _ _ _ _ _ _]
  simp only [toRows_rows, Nd.eta, isRows_rows, isL_enc, decL_enc, ht, fd_br, fd_chk', fd_leaf, if_true, Bool.not_eq_true', decide_eq_true_eq]
  by_cases s1 : smallR 400 t = false
  · rw [if_pos s1]
  rw [if_neg s1]
  by_cases s2 : (100 : Int) < pa.length
  · rw [if_pos s2]
  rw [if_neg s2]
  by_cases s3 : (100 : Int) < pb.length
  · rw [if_pos s3]
  rw [if_neg s3]
  by_cases s4 : (100 : Int) < pc.length
  · rw [if_pos s4]
  rw [if_neg s4, checkT_ne]
  by_cases s5 : okR t = false
  · simp [s5]
  rw [Bool.not_eq_false] at s5
  rw [Bool.not_eq_false] at s1
  simp only [smallR, decide_eq_true_eq] at s1
  have hc : countL t.kids < 1000000000 := by
    have := leftT_cnt t 400 60 (by omega) s1
    rw [countT_eq] at this; omega
  have he := leftT_ent t 400 60 (by omega) s1
  have hek : (entL t.kids).length ≤ (entT t).length := by rw [entT_eq]; simp
  have hk : (entL t.kids).length < 1000000000 := by omega
  have hP : (entP t).length < 1000000000 := entP_len t hk
  have hgd := gd_entP t
  have hrl : ∀ m : List Ent, (∀ e ∈ m, e ∈ entP t) → rowsLen m = true := fun m hm => by
    rw [rowsLen, List.all_eq_true]
    intro e he
    exact decide_eq_true (right_len63 (hgd.right e (hm e he)))
  have hfl : ∀ w : Ent → Bool, ((entP t).filter w).length < 1000000000 := fun w => Nat.lt_of_le_of_lt (List.length_filter_le _ _) hP
  have hn : nodesP t ≤ 2 * ((entP t).length : Int) + 1 := by
    unfold nodesP
    rw [if_pos s5, entP_R s5]
    have := nodes_le s5; omega
  have hget : ∀ e ∈ entP t, getR t e.1 = e.2 := fun e he => by rw [getR_P]; exact look_in hgd.rise he
  have hg : ∀ q, (getR t q).length ≤ 9223372036854775807 := fun q => by
    by_cases k : getR t q = []
    · rw [k]; simp
    · rw [getR_P] at k ⊢
      obtain ⟨e, he, hp⟩ := look_ex k
      rw [← hp, look_in hgd.rise he]
      exact right_len63 (hgd.right e he)
  simp only [s5, hk, Bool.not_true, Bool.false_eq_true, if_false, decide_true, if_true]
  -- the count, and what follows it
  have tail : p9.fd (Tr.ls 1 (ck9_0x1_4 t.lab (rows t.rows) (encL t.kids) pa none false (ents (entP t)) none false none false)) = some (.out [V.b true] []) := by
    unfold ck9_0x1_4
    simp only [toRows_rows, decL_enc, Nd.eta]
    refine fd_post hct9 (by kernel_rfl) rfl ?_
    obtain ⟨x, hx, hL⟩ := cnt9 t (entP t) (by omega) pa ((entP t).filter fun e => begins e.1 pa)
    refine ⟨x, ?_, hL⟩
    subst hx
    rw [k9_1x0]
    have w : IntKind.wrap .i64 (IntKind.wrap .i64 (2 * ((entP t).length : Int)) + 1) = 2 * ((entP t).length : Int) + 1 := by
      rw [wrap_same (n := 2 * ((entP t).length : Int)) (by omega) (by omega), wrap_same (by omega) (by omega)]
    simp only [nd_ok, nd_lab, nd_rows, nd_kids, encL_length, isL_enc, decL_enc, wrap_hd, hd_pos, ld_br, ld_chk', ld_leaf, fd_br, fd_chk', fd_leaf, decide_true, decide_eq_true_eq, if_true, Int.toNat_natCast, Int.natCast_nonneg, Int.ofNat_lt, Int.ofNat_le, Bool.false_eq_true, if_false, bne_iff_ne, beq_iff_eq, ne_eq, not_true_eq_false, not_false_eq_true, Bool.not_eq_true', decide_eq_false_iff_not, reduceCtorEq, rows_length, pcs_length, er_ok, er_ok', ep_ok, ep_ok', dr_er, dp_ep, isRows_rows, isPcs_pcs, toRows_rows, toPcs_pcs, rows_take, rows_drop, pcs_take, pcs_drop, rows_append, pcs_append, ints_length, isInts_ints, toInts_ints, ei_i, ei_ok, mk_headD, ints_take, ints_drop, ints_append, ints_snoc, ints_snoc', List.take_length, Nat.zero_add, Nat.le_refl, er_a, er_b, er_k, er_n, er_s, er_v, ep_a, ep_b, ep_hk, ep_hn, ep_hs, ep_wk, ep_wn, ep_ws, Nd.eta, ents_length, filt_nil, toEs_ents, isEs_ents, hk, hc, w, hn, hrl _ (fun e h => h), show (entP t).length < 4294967296 by omega, beq_self_eq_true]
  refine fd_post hct9 (by kernel_rfl) rfl ?_
  obtain ⟨x, hx, hL⟩ := all9 t (entP t) (by omega) pa pb pc hgd.rise hget hg
  refine ⟨x, ?_, hL⟩
  subst hx
  rw [k9_0x1]
  have hfa : ∀ w : Ent → Bool, ∀ e ∈ (entP t).filter w, e ∈ entP t := fun w e h => (List.mem_filter.1 h).1
  by_cases c1 : (Op.bytesLess pa pb || pa == pb) = true
  case neg => simp only [fd_br, fd_chk', isRows_rows, isL_enc, decL_enc, hk, decide_true, if_true, tail, c1, Bool.false_eq_true, if_false]
  by_cases c2 : (Op.bytesLess pb pc || pb == pc) = true
  case neg => simp only [fd_br, fd_chk', isRows_rows, isL_enc, decL_enc, hk, decide_true, if_true, tail, c1, c2, Bool.false_eq_true, if_false]
  by_cases c3 : (!pb == []) = true
  case neg => simp only [fd_br, fd_chk', isRows_rows, isL_enc, decL_enc, hk, decide_true, if_true, tail, c1, c2, c3, Bool.false_eq_true, if_false]
  by_cases c4 : (!pc == []) = true
  case neg => simp only [fd_br, fd_chk', isRows_rows, isL_enc, decL_enc, hk, decide_true, if_true, tail, c1, c2, c3, c4, Bool.false_eq_true, if_false]
  have hle : ∀ {x y : List UInt8}, (Op.bytesLess x y || x == y) = true → Op.bytesLess y x = false := fun {x y} h => by
    rw [Bool.or_eq_true, beq_iff_eq] at h
    rcases h with h | rfl
    · cases k : Op.bytesLess y x with
      | false => rfl
      | true => have := bl_trans h k; rw [bl_irrefl] at this; cases this
    · exact bl_irrefl _
  have hp := parts hgd.rise (hle c1) (hle c2) (by simpa using c3) (by simpa using c4)
  have hck : ck9_0x1_3 t.lab (rows t.rows) (encL t.kids) pa pb pc = ents ((entP t).filter fun e => wB pa pc e.1) := by
    unfold ck9_0x1_3 ck9_0x1_1 ck9_0x1_2
    rw [toRows_rows, decL_enc, Nd.eta, ← hp]
    simp [ents, List.take_of_length_le]
  have h1 : ck9_0x1_1 t.lab (rows t.rows) (encL t.kids) pa pb = (entP t).filter fun e => wB pa pb e.1 := by unfold ck9_0x1_1; rw [toRows_rows, decL_enc, Nd.eta]
  have h2 : ck9_0x1_2 t.lab (rows t.rows) (encL t.kids) pb pc = (entP t).filter fun e => wB pb pc e.1 := by unfold ck9_0x1_2; rw [toRows_rows, decL_enc, Nd.eta]
  have h3 := hfl fun e => wB pa pb e.1
  have h4 := hfl fun e => wB pb pc e.1
  have h5 := hfl fun e => wB pa pc e.1
  simp only [fd_br, fd_chk', isRows_rows, isL_enc, hk, decide_true, if_true, tail, c1, c2, c3, c4, Bool.false_eq_true, if_false, hck, h1, h2, ents_length, isEs_ents, toEs_ents, toRows_rows, decL_enc, Nd.eta, Nat.zero_add, hrl _ (hfa _),
    show ((entP t).filter fun e => wB pa pb e.1).length < 4294967296 by omega, show ((entP t).filter fun e => wB pa pb e.1).length + ((entP t).filter fun e => wB pb pc e.1).length < 4294967296 by omega, show ((entP t).filter fun e => wB pa pc e.1).length < 4294967296 by omega]
end Go.Proofs.YtgaabjmbnomimaaDoor
namespace Go.Proofs.YtgaabjmbnomimaaDoor
open Go Go.Ev
theorem l9 (t : Lt) (pa pb pc : Bys) : call E 9 [VT t.t, .c (.str pa), .c (.str pb), .c (.str pc)] [] = some ([V.b true], []) := f9 t.t pa pb pc t.ok
end Go.Proofs.YtgaabjmbnomimaaDoor
