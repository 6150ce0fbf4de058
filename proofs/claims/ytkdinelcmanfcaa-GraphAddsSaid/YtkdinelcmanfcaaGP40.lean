import Derived.Test.YtkdinelcmanfcaaEnvG12
import Derived.Test.YtkdinelcmanfcaaEvM
set_option linter.unusedSimpArgs false
set_option linter.unusedVariables false
namespace Go.Proofs.Ytkdinelcmanfcaa
open Go Go.Ev

noncomputable abbrev p40 : Par := par E sh (ctOf []) 40 2 0
noncomputable abbrev b40 : Code := loopAt (codeOf E 40) 0
theorem t40 (xs : List (List C)) (nl : Option Bool) (t : Bool) (n : Int) : p40.ft [.c (.sl 1 nl t xs), V.i n] [] = Tr.lp 0 [(0, V.c (C.sl 1 nl t xs)), (1, V.c (C.int IntKind.i64 n)), (5, V.c (C.int IntKind.i64 0))] [] := by kernel_rfl
theorem t40_0 (xs : List (List C)) (nl : Option Bool) (t : Bool) (n i : Int) : p40.lt b40 [(0, .c (.sl 1 nl t xs)), (1, V.i n), (5, V.i i)] [] =
 Tr.br (decide (i < ↑xs.length))
  (Tr.chk (decide (0 ≤ i))
    (Tr.chk true
      (Tr.chk (decide (i.toNat < xs.length))
        (Tr.chk (shOk [Sk.int IntKind.i64] (xs.getD i.toNat []))
          (Tr.br (((xs.getD i.toNat []).headD C.pnil).i == n) (Tr.leaf (R.st Ex.ret [(4, V.c (C.bool true))] []))
            (Tr.leaf
              (R.st Ex.nrm
                [(0, V.c (C.sl 1 nl t xs)), (1, V.c (C.int IntKind.i64 n)),
                  (5, V.c (C.int IntKind.i64 (IntKind.i64.wrap (i + 1))))]
                [])))))))
  (Tr.leaf
    (R.st (Ex.exit 0)
      [(0, V.c (C.sl 1 nl t xs)), (1, V.c (C.int IntKind.i64 n)), (5, V.c (C.int IntKind.i64 i)),
        (9, V.c (C.bool false))]
      [])) := by kernel_rfl
theorem k40_0a : p40.fk 0 .ret [(4, V.c (C.bool true))] [] = Tr.leaf (R.out [V.c (C.bool true)] []) := by kernel_rfl
theorem k40_0b (xs : List (List C)) (nl : Option Bool) (t : Bool) (n i : Int) : p40.fk 0 (.exit 0) [(0, .c (.sl 1 nl t xs)), (1, V.i n), (5, V.i i), (9, V.c (C.bool false))] [] = Tr.leaf (R.out [V.c (C.bool false)] []) := by kernel_rfl

theorem f40 (l : List Int) (nl : Option Bool) (t : Bool) (n : Int) (hl : l.length < 4294967296) : call E 40 [.c (.sl 1 nl t (ints l)), V.i n] [] = some ([V.b (l.contains n)], []) := by
  have hct : p40.ct.ok p40.E := ctOf_nil
  have hloop := loop_of (p := p40) hct (b := b40) (fun k : Nat => ([(0, .c (.sl 1 nl t (ints l))), (1, V.i n), (5, V.i k)], [])) (fun k => k ≤ l.length) (fun k => l.length - k)
    (fun k => if (l.drop k).contains n then (.ret, [(4, V.c (C.bool true))], []) else (.exit 0, [(0, .c (.sl 1 nl t (ints l))), (1, V.i n), (5, V.i l.length), (9, V.c (C.bool false))], []))
    (by
      intro k hk
      simp only [t40_0]
      rcases Nat.lt_or_ge k l.length with h | h
      · have hget : l.getD k 0 = l[k] := by simp [List.getD_eq_getElem?_getD, h]
        have hdrop : l.drop k = l[k] :: l.drop (k + 1) := List.drop_eq_getElem_cons h
        have hw := wrap_same (n := (k : Int) + 1) (by omega) (by omega)
        simp only [ld_br, ld_chk, ints_length, Int.toNat_natCast, ints_getD h, ei_ok, ei_i, hget, hw, ld_leaf, h, hdrop, Int.ofNat_lt, decide_true, Int.natCast_nonneg, if_true, List.contains_cons, beq_iff_eq]
        by_cases hx : l[k] = n
        · exact .inr (by simp [hx])
        · refine .inl ⟨k + 1, by omega, by omega, ?_, ?_⟩
          · simp [Ne.symm hx]
          · simp [hx]
      · have : k = l.length := by omega
        subst this
        refine .inr ?_
        simp [ld_br, ld_leaf]) 0 (by omega)
  refine call_of (E := E) (sh := sh) (ct := ctOf []) (na := 2) (m := 0) ctOf_nil rfl rfl rfl rfl rfl rfl ?_
  rw [t40]
  simp only [List.drop_zero] at hloop
  cases h : l.contains n <;> simp only [h, Bool.false_eq_true, if_false, if_true] at hloop
  · exact fd_lp hct (by kernel_rfl) hloop (by rw [k40_0b]; rfl)
  · exact fd_lp hct (by kernel_rfl) hloop (by rw [k40_0a]; rfl)
end Go.Proofs.Ytkdinelcmanfcaa
