/-
  Radix trees: trees, written by a program: what a walk hands over, where all is wanted; Radix trees: what a walk hands over, where all is wanted; Radix trees: trees, written by a program: Entries; Radix trees: Entries; Trees, written by a program: what is the same: rows, tries, entries, texts; What is the same: rows, tries, entries, texts; Chapter 11 (delta), trees, written by a program: what comes of a path; right trees; sides; Chapter 11 (delta), trees, written by a program: what sides hands over; Chapter 11 (delta): what sides hands over; Chapter 11, plain: what sides hand over, what comes o.
-/
import Derived.Test.YtgaabjmbnomimaaDoorRP1
set_option linter.all false
namespace Go.Proofs.YtgaabjmbnomimaaDoor
open Go Go.Ev
-- cse
def s134 : CSpec := fun a h => match a, h with
  | [.agg [.c (.str s), .c (.sl 5 rn rt xs), .c (.sl 3 kn kt ys)], .c (.str q), .fn 82 []], [] => some ([], [.fn 166 [.ptr 1 0 0 0, .ptr 0 0 0 0, .ptr 2 0 0 0]], [.box [.c (.str s), .c (.sl 5 rn rt xs), .c (.sl 3 kn kt ys)], .box [.c (.str q)], .box [.fn 82 []]])
  | _, _ => none
noncomputable abbrev p166 : Par := par E sh (ctOf [(82, s82), (68, s68), (134, s134)]) 166 4 4
abbrev s166_0 (q : Bys) (s : Bys) (rn : OBo) (rt : Bool) (xs : LLC) (kn : OBo) (kt : Bool) (ys : LLC) (r : List (List V)) (b : Bool) (s5 : Bys) (i33 : Int) (i34 : Int) : Fr × Hp := ([(3, V.ptr 2 0 0 0), (4, V.ptr 4 0 0 0), (5, V.c (C.str s5)), (32, V.c (C.sl 3 kn kt ys)), (33, V.c (C.int IntKind.i64 i33)), (34, V.c (C.int IntKind.i64 i34))], [O.box [V.c (C.str q)], O.box [V.c (C.str s), V.c (C.sl 5 rn rt xs), V.c (C.sl 3 kn kt ys)], O.box [V.fn 82 []], O.yo r.tail b, O.box [V.yl 3]])
abbrev s166_0v (q : Bys) (s : Bys) (rn : OBo) (rt : Bool) (xs : LLC) (kn : OBo) (kt : Bool) (ys : LLC) (r : List (List V)) (b : Bool) (s5 : Bys) (i33 : Int) (i34 : Int) : Fr × Hp := ([(3, V.ptr 2 0 0 0), (4, V.ptr 4 0 0 0), (5, V.c (C.str s5)), (32, V.c (C.sl 3 kn kt ys)), (33, V.c (C.int IntKind.i64 i33)), (34, V.c (C.int IntKind.i64 i34))], [O.box [V.c (C.str q)], O.box [V.c (C.str s), V.c (C.sl 5 rn rt xs), V.c (C.sl 3 kn kt ys)], O.box [V.fn 82 []], O.yo r b, O.box [V.yl 3]])
noncomputable abbrev b166_0v : Code := loopAt (codeOf E (166)) 0
abbrev s166_0v_0 (q : Bys) (s : Bys) (rn : OBo) (rt : Bool) (xs : LLC) (kn : OBo) (kt : Bool) (ys : LLC) (r : List (List V)) (b : Bool) (s5 : Bys) (i33 : Int) (i34 : Int) (sh5 : Bys) (nlh5 : OBo) (th5 : Bool) (xsh5 : LLC) (nlh5_1 : OBo) (th5_1 : Bool) (xsh5_1 : LLC) : Fr × Hp := ([(3, V.ptr 2 0 0 0), (4, V.ptr 4 0 0 0), (5, V.c (C.str s5)), (32, V.c (C.sl 3 kn kt ys)), (33, V.c (C.int IntKind.i64 i33)), (34, V.c (C.int IntKind.i64 i34)), (41, V.fn 166 [V.ptr 6 0 0 0, V.ptr 5 0 0 0, V.ptr 7 0 0 0])], [O.box [V.c (C.str q)], O.box [V.c (C.str s), V.c (C.sl 5 rn rt xs), V.c (C.sl 3 kn kt ys)], O.box [V.fn 82 []], O.yo r b, O.box [V.yl 3], O.box [V.c (C.str sh5), V.c (C.sl 5 nlh5 th5 xsh5), V.c (C.sl 3 nlh5_1 th5_1 xsh5_1)], O.box [V.c (C.str s5)], O.box [V.fn 82 []]])
noncomputable abbrev b166_0v_0 : Code := loopAt b166_0v 0
abbrev g166_0v_0 (q : Bys) (s : Bys) (rn : OBo) (rt : Bool) (xs : LLC) (kn : OBo) (kt : Bool) (ys : LLC) (r : List (List V)) (b : Bool) (s5 : Bys) (i33 : Int) (i34 : Int) : Fr × Hp := ([(3, V.ptr 2 0 0 0), (4, V.ptr 4 0 0 0), (5, V.c (C.str s5)), (32, V.c (C.sl 3 kn kt ys)), (33, V.c (C.int IntKind.i64 i33)), (34, V.c (C.int IntKind.i64 i34)), (41, V.fn 166 [V.ptr 6 0 0 0, V.ptr 5 0 0 0, V.ptr 7 0 0 0])], [O.box [V.c (C.str q)], O.box [V.c (C.str s), V.c (C.sl 5 rn rt xs), V.c (C.sl 3 kn kt ys)], O.box [V.fn 82 []], O.yo r b, O.box [V.yl 3], O.gone, O.gone, O.gone])
abbrev x166_0v_0x0 (q : Bys) (s : Bys) (rn : OBo) (rt : Bool) (xs : LLC) (kn : OBo) (kt : Bool) (ys : LLC) (r : List (List V)) (b : Bool) (s5 : Bys) (i33 : Int) (i34 : Int) (p : Bys) (zs : LLC) (nlh8 : OBo) : Ex × Fr × Hp := (Ex.ret, [(3, V.ptr 2 0 0 0), (4, V.ptr 4 0 0 0), (5, V.c (C.str s5)), (32, V.c (C.sl 3 kn kt ys)), (33, V.c (C.int IntKind.i64 i33)), (34, V.c (C.int IntKind.i64 i34)), (41, V.fn 166 [V.ptr 6 0 0 0, V.ptr 5 0 0 0, V.ptr 7 0 0 0])], [O.box [V.c (C.str q)], O.box [V.c (C.str s), V.c (C.sl 5 rn rt xs), V.c (C.sl 3 kn kt ys)], O.box [V.fn 82 []], O.yo r.tail b, O.box [V.yl 3], O.gone, O.gone, O.gone, O.box [V.c (C.str p), V.c (C.sl 5 nlh8 false zs)]])
abbrev x166_0v_0n (q : Bys) (s : Bys) (rn : OBo) (rt : Bool) (xs : LLC) (kn : OBo) (kt : Bool) (ys : LLC) (r : List (List V)) (b : Bool) (s5 : Bys) (i33 : Int) (i34 : Int) : Ex × Fr × Hp := (Ex.nrm, [(3, V.ptr 2 0 0 0), (4, V.ptr 4 0 0 0), (5, V.c (C.str s5)), (32, V.c (C.sl 3 kn kt ys)), (33, V.c (C.int IntKind.i64 i33)), (34, V.c (C.int IntKind.i64 i34)), (41, V.fn 166 [V.ptr 6 0 0 0, V.ptr 5 0 0 0, V.ptr 7 0 0 0])], [O.box [V.c (C.str q)], O.box [V.c (C.str s), V.c (C.sl 5 rn rt xs), V.c (C.sl 3 kn kt ys)], O.box [V.fn 82 []], O.yo r b, O.box [V.yl 3], O.gone, O.gone, O.gone])
abbrev x166_0vx0 (q : Bys) (s : Bys) (rn : OBo) (rt : Bool) (xs : LLC) (kn : OBo) (kt : Bool) (ys : LLC) (r : List (List V)) (b : Bool) (s5 : Bys) (i33 : Int) (i34 : Int) (p : Bys) (zs : LLC) (nlh8 : OBo) : Ex × Fr × Hp := (Ex.ret, [(3, V.ptr 2 0 0 0), (4, V.ptr 4 0 0 0), (5, V.c (C.str s5)), (32, V.c (C.sl 3 kn kt ys)), (33, V.c (C.int IntKind.i64 i33)), (34, V.c (C.int IntKind.i64 i34)), (41, V.fn 166 [V.ptr 6 0 0 0, V.ptr 5 0 0 0, V.ptr 7 0 0 0])], [O.box [V.c (C.str q)], O.box [V.c (C.str s), V.c (C.sl 5 rn rt xs), V.c (C.sl 3 kn kt ys)], O.box [V.fn 82 []], O.yo r.tail b, O.box [V.yl 3], O.gone, O.gone, O.gone, O.box [V.c (C.str p), V.c (C.sl 5 nlh8 false zs)]])
abbrev x166_0vx1 (q : Bys) (s : Bys) (rn : OBo) (rt : Bool) (xs : LLC) (kn : OBo) (kt : Bool) (ys : LLC) (r : List (List V)) (b : Bool) (s5 : Bys) (i33 : Int) (i34 : Int) : Ex × Fr × Hp := (Ex.exit 0, [(3, V.ptr 2 0 0 0), (4, V.ptr 4 0 0 0), (5, V.c (C.str s5)), (32, V.c (C.sl 3 kn kt ys)), (33, V.c (C.int IntKind.i64 i33)), (34, V.c (C.int IntKind.i64 i34)), (35, V.c (C.bool false))], [O.box [V.c (C.str q)], O.box [V.c (C.str s), V.c (C.sl 5 rn rt xs), V.c (C.sl 3 kn kt ys)], O.box [V.fn 82 []], O.yo r b, O.box [V.yl 3]])
theorem t166_0v_0 (q : Bys) (s : Bys) (rn : OBo) (rt : Bool) (xs : LLC) (kn : OBo) (kt : Bool) (ys : LLC) (r : List (List V)) (b : Bool) (s5 : Bys) (i33 : Int) (i34 : Int) (p : Bys) (zs : LLC) : p166.rts b166_0v_0 ([V.agg [V.c (C.str p), V.c (C.sl 5 none false zs)]]) (g166_0v_0 q s rn rt xs kn kt ys r b s5 i33 i34) = (Tr.chk (yoHd r [V.agg [V.c (C.str p), V.c (C.sl 5 none false zs)]]) (Tr.br (!yoAns r b) (Tr.leaf (R.x (x166_0v_0x0 q s rn rt xs kn kt ys r b s5 i33 i34 p zs (none)))) (Tr.leaf (R.s (g166_0v_0 q s rn rt xs kn kt ys (r.tail) b s5 i33 i34))))) := by kernel_rfl
theorem k166_0v_0n (q : Bys) (s : Bys) (rn : OBo) (rt : Bool) (xs : LLC) (kn : OBo) (kt : Bool) (ys : LLC) (r : List (List V)) (b : Bool) (s5 : Bys) (i33 : Int) (i34 : Int) : p166.lkx b166_0v 0 (x166_0v_0n q s rn rt xs kn kt ys r b s5 i33 i34) = (Tr.leaf (R.s (s166_0v q s rn rt xs kn kt ys r b s5 i33 (IntKind.i64.wrap (i34 + 1))))) := by kernel_rfl
theorem k166_0v_0x0 (q : Bys) (s : Bys) (rn : OBo) (rt : Bool) (xs : LLC) (kn : OBo) (kt : Bool) (ys : LLC) (r : List (List V)) (b : Bool) (s5 : Bys) (i33 : Int) (i34 : Int) (p : Bys) (zs : LLC) (nlh8 : OBo) : p166.lkx b166_0v 0 (x166_0v_0x0 q s rn rt xs kn kt ys r b s5 i33 i34 p zs nlh8) = (Tr.leaf (R.x (x166_0vx0 q s rn rt xs kn kt ys r b s5 i33 i34 p zs nlh8))) := by kernel_rfl
theorem t166_0v (q : Bys) (s : Bys) (rn : OBo) (rt : Bool) (xs : LLC) (kn : OBo) (kt : Bool) (ys : LLC) (r : List (List V)) (b : Bool) (s5 : Bys) (i33 : Int) (i34 : Int) : p166.lts b166_0v (s166_0v q s rn rt xs kn kt ys r b s5 i33 i34) = (Tr.br (decide (i34 < i33)) (Tr.chk (decide (0 ≤ i34)) (Tr.chk true (Tr.chk (decide (i34.toNat < ys.length)) (Tr.chk (shOk [Sk.str, Sk.sl 5, Sk.sl 3] (ys.getD i34.toNat [])) (Tr.rs 0 (s166_0v_0 q s rn rt xs kn kt ys r b s5 i33 i34 (((ys.getD i34.toNat []).headD C.pnil).st) (none) false (((ys.getD i34.toNat []).tail.headD C.pnil).xs) (none) false (((ys.getD i34.toNat []).tail.tail.headD C.pnil).xs))))))) (Tr.leaf (R.x (x166_0vx1 q s rn rt xs kn kt ys r b s5 i33 i34)))) := by kernel_rfl
theorem k166_0vx0 (q : Bys) (s : Bys) (rn : OBo) (rt : Bool) (xs : LLC) (kn : OBo) (kt : Bool) (ys : LLC) (r : List (List V)) (b : Bool) (s5 : Bys) (i33 : Int) (i34 : Int) (p : Bys) (zs : LLC) (nlh8 : OBo) : p166.fkx 0 (x166_0vx0 q s rn rt xs kn kt ys r b s5 i33 i34 p zs nlh8) = (Tr.leaf (R.out [] [O.box [V.c (C.str q)], O.box [V.c (C.str s), V.c (C.sl 5 rn rt xs), V.c (C.sl 3 kn kt ys)], O.box [V.fn 82 []], O.yo r.tail b])) := by kernel_rfl
theorem k166_0vx1 (q : Bys) (s : Bys) (rn : OBo) (rt : Bool) (xs : LLC) (kn : OBo) (kt : Bool) (ys : LLC) (r : List (List V)) (b : Bool) (s5 : Bys) (i33 : Int) (i34 : Int) : p166.fkx 0 (x166_0vx1 q s rn rt xs kn kt ys r b s5 i33 i34) = (Tr.leaf (R.out [] [O.box [V.c (C.str q)], O.box [V.c (C.str s), V.c (C.sl 5 rn rt xs), V.c (C.sl 3 kn kt ys)], O.box [V.fn 82 []], O.yo r b])) := by kernel_rfl
theorem t166 (q : Bys) (s : Bys) (rn : OBo) (rt : Bool) (xs : LLC) (kn : OBo) (kt : Bool) (ys : LLC) (r : List (List V)) (b : Bool) : p166.ft ([V.yl 3, V.ptr 0 0 0 0, V.ptr 1 0 0 0, V.ptr 2 0 0 0]) ([O.box [V.c (C.str q)], O.box [V.c (C.str s), V.c (C.sl 5 rn rt xs), V.c (C.sl 3 kn kt ys)], O.box [V.fn 82 []], O.yo r b]) = (Tr.chk (decide (q.length + s.length < 4294967296)) (Tr.br false (Tr.leaf (R.out [] [O.box [V.c (C.str q)], O.box [V.c (C.str s), V.c (C.sl 5 rn rt xs), V.c (C.sl 3 kn kt ys)], O.box [V.fn 82 []], O.yo r b])) (Tr.br (decide (0 < (↑xs.length : Int))) (Tr.chk (decide (xs.length < 4294967296)) (Tr.chk (decide (rn ≠ some true ∨ xs = [])) (Tr.chk (yoHd r [V.agg [V.c (C.str (q ++ s)), V.c (C.sl 5 none false xs)]]) (Tr.br (!yoAns r b) (Tr.leaf (R.out [] [O.box [V.c (C.str q)], O.box [V.c (C.str s), V.c (C.sl 5 rn rt xs), V.c (C.sl 3 kn kt ys)], O.box [V.fn 82 []], O.yo r.tail b])) (Tr.ls 0 (s166_0 q s rn rt xs kn kt ys r b (q ++ s) ((↑ys.length : Int)) (0))))))) (Tr.ls 0 (s166_0v q s rn rt xs kn kt ys r b (q ++ s) ((↑ys.length : Int)) (0)))))) := by kernel_rfl
end Go.Proofs.YtgaabjmbnomimaaDoor
namespace Go.Proofs.YtgaabjmbnomimaaDoor
open Go Go.Ev
theorem want_take {es u : List (List V)} {b : Bool} (hw : Want es u b) : ∃ m, u = es.take m ∧ m ≤ es.length ∧ (b = false → m = es.length) ∧ (b = true → 1 ≤ m) := by
  rcases hw with ⟨h1, h2⟩ | ⟨h1, h2, h3⟩
  · exact ⟨es.length, by rw [List.take_length]; exact h2, Nat.le_refl _, fun _ => rfl, fun h => by rw [h1] at h; cases h⟩
  · exact ⟨u.length, List.prefix_iff_eq_take.1 h3, h3.length_le, fun h => (by rw [h1] at h; cases h), fun _ => List.length_pos_iff.2 h2⟩
def ownW (q : Bys) (rs : List Row) : List Ent := match rs with | [] => [] | r :: s => [(q, r :: s)]
theorem walkT_eq (al : List UInt8 → Bool) (q s : Bys) (rs : List Row) (ks : List Nd) : walkT al q (.node s rs ks) = cond (al (q ++ s)) (ownW (q ++ s) rs ++ walkL al (q ++ s) ks) [] := by
  cases rs <;> simp [walkT, ownW]
theorem walkL_app (al : List UInt8 → Bool) (q : Bys) (a b : List Nd) : walkL al q (a ++ b) = walkL al q a ++ walkL al q b := by
  induction a with
  | nil => rfl
  | cons t r ih => simp [walkL, ih]
theorem walkL_take (al : List UInt8 → Bool) (q : Bys) {l : List Nd} {k : Nat} (hk : k < l.length) : walkL al q (l.take (k + 1)) = walkL al q (l.take k) ++ walkT al q l[k] := by
  rw [List.take_succ_eq_append_getElem hk, walkL_app]; simp [walkL]
theorem walkL_take_le (al : List UInt8 → Bool) (q : Bys) (l : List Nd) (k : Nat) : (walkL al q (l.take k)).length ≤ (walkL al q l).length := by
  conv => rhs; rw [← List.take_append_drop k l, walkL_app, List.length_append]
  omega
mutual
theorem eqb_refl : ∀ x : C, x.eqb x = true
  | .int .. | .bool _ | .str _ | .pnil | .inil | .fnil => by simp [C.eqb]
  | .sl z nl t xs => by simp [C.eqb, eqbLL_refl xs]
theorem eqbL_refl : ∀ l : List C, eqbL l l = true
  | [] => by simp [eqbL]
  | x :: r => by simp [eqbL, eqb_refl x, eqbL_refl r]
theorem eqbLL_refl : ∀ l : List (List C), eqbLL l l = true
  | [] => by simp [eqbLL]
  | x :: r => by simp [eqbLL, eqbL_refl x, eqbLL_refl r]
end
theorem eqb_encE (p : Bys) (rs : List Row) : eqbV [V.agg [V.c (C.str p), V.c (C.sl 5 none false (rows rs))]] (encE (p, rs)) = true := by
  simp [encE, eqbV, V.eqb, eqb_refl]
structure At (u : List (List V)) (b : Bool) (m c : Nat) (r : List (List V)) : Prop where
  eq : r = u.drop c
  le : c ≤ m
  lt : b = true → c < m
theorem At.next {es : List (List V)} {u : List (List V)} {b : Bool} {m c : Nat} {r : List (List V)} (hu : u = es.take m) (hm : m ≤ es.length) (hb : b = false → m = es.length) (h : At u b m c r) (hc : c < es.length) :
    c < m ∧ r = es[c] :: u.drop (c + 1) ∧ r.tail = u.drop (c + 1) ∧ ((yoAns r b = true ∧ At u b m (c + 1) r.tail) ∨ (yoAns r b = false ∧ r.tail = [] ∧ b = true)) := by
  have hcm : c < m := by
    cases b with
    | false => have := hb rfl; omega
    | true => exact h.lt rfl
  have hul : u.length = m := by rw [hu, List.length_take]; omega
  have hcu : c < u.length := by omega
  have hd : r = es[c] :: u.drop (c + 1) := by
    rw [h.eq, List.drop_eq_getElem_cons hcu]
    congr 1
    simp only [hu, List.getElem_take]
  have ht : r.tail = u.drop (c + 1) := by rw [hd]; rfl
  refine ⟨hcm, hd, ht, ?_⟩
  unfold yoAns
  cases b with
  | false => exact .inl ⟨by simp, ht, by omega, fun h => by cases h⟩
  | true =>
    by_cases hlast : c + 1 = m
    · right
      have hnil : u.drop (c + 1) = [] := List.drop_of_length_le (by omega)
      rw [ht, hnil]
      exact ⟨by simp, rfl, rfl⟩
    · left
      have hne : (u.drop (c + 1)).isEmpty = false := by
        rw [List.isEmpty_eq_false_iff]
        intro h
        have := congrArg List.length h
        rw [List.length_drop] at this
        simp at this; omega
      rw [ht]
      exact ⟨by simp [hne], rfl, by omega, fun _ => by omega⟩
theorem At.end_ {es : List (List V)} {u : List (List V)} {b : Bool} {m c : Nat} {r : List (List V)} (hu : u = es.take m) (hm : m ≤ es.length) (h : At u b m c r) (hc : c = es.length) : r = [] ∧ b = false := by
  have hbf : b = false := by
    cases b with
    | false => rfl
    | true => have := h.lt rfl; omega
  exact ⟨by rw [h.eq]; exact List.drop_of_length_le (by rw [hu, List.length_take]; omega), hbf⟩
theorem f134 (s : Bys) (rn : OBo) (rt : Bool) (xs : LLC) (kn : OBo) (kt : Bool) (ys : LLC) (q : Bys) : call E 134 [.agg [.c (.str s), .c (.sl 5 rn rt xs), .c (.sl 3 kn kt ys)], .c (.str q), .fn 82 []] [] =
    some ([.fn 166 [.ptr 1 0 0 0, .ptr 0 0 0 0, .ptr 2 0 0 0]], [.box [.c (.str s), .c (.sl 5 rn rt xs), .c (.sl 3 kn kt ys)], .box [.c (.str q)], .box [.fn 82 []]]) := by
  refine call_of (E := E) (sh := sh) (ct := ctOf []) (na := 3) (m := 0) ctOf_nil rfl rfl rfl rfl rfl rfl ?_
  rw [t134]; rfl
theorem s134_ok : CSpecOk E 134 s134 := by
  intro a h cs vals h' he hc
  unfold s134 at he
  split at he <;> simp only [Option.some.injEq, Prod.mk.injEq, reduceCtorEq] at he
  obtain ⟨rfl, rfl, rfl⟩ := he
  exact f134 _ _ _ _ _ _ _ _
def alA (_ : Bys) : Bool := true
def boxK (q s : Bys) (rn : OBo) (rt : Bool) (xs : LLC) (kn : OBo) (kt : Bool) (ys : LLC) : Hp := [.box [.c (.str q)], .box [.c (.str s), .c (.sl 5 rn rt xs), .c (.sl 3 kn kt ys)], .box [.fn 82 []]]
theorem sq166_ok (q s : Bys) (rn : OBo) (rt : Bool) (rs : List Row) (kn : OBo) (kt : Bool) (ks : List Nd) :
    E.seq 166 [.yl 3, .ptr 0 0 0 0, .ptr 1 0 0 0, .ptr 2 0 0 0] (boxK q s rn rt (rows rs) kn kt (encL ks)) = some ((walkT alA q (.node s rs ks)).map encE) := by
  have : sq 166 [.yl 3, .ptr 0 0 0 0, .ptr 1 0 0 0, .ptr 2 0 0 0] (boxK q s rn rt (rows rs) kn kt (encL ks)) = some ((walkT alA q (.node s rs ks)).map encE) := by
    simp only [sq, sq166, boxK, alongP, toRows_rows, decL_enc]; rfl
  exact this
def args166 : List V := [.yl 3, .ptr 0 0 0 0, .ptr 1 0 0 0, .ptr 2 0 0 0]
set_option maxHeartbeats 1000000 in
theorem f166 : ∀ (d : Nat) (q s : Bys) (rn : OBo) (rt : Bool) (rs : List Row) (kn : OBo) (kt : Bool) (ks : List Nd) (n : Nat), depL ks < d → q.length + s.length + n ≤ 24 → kidsOk ks n → right rs = true → (rn ≠ some true ∨ rs = []) →
    ∀ (u : List (List V)) (b : Bool), Want ((walkT alA q (.node s rs ks)).map encE) u b →
    call E 166 args166 (boxK q s rn rt (rows rs) kn kt (encL ks) ++ [.yo u b]) = some ([], boxK q s rn rt (rows rs) kn kt (encL ks) ++ [.yo [] b])
  | 0, _, _, _, _, _, _, _, _, _, h, _, _, _, _, _, _, _ => by omega
  | d + 1, q, s, rn, rt, rs, kn, kt, ks, n, hd, hl, hk, hr, hn, u, b, hw => by
    have hct : (ctOf [(82, s82), (68, s68), (134, s134)]).ok E := ctOf_cons s82_ok (ctOf_cons s68_ok (ctOf_cons s134_ok ctOf_nil))
    refine call_of (E := E) (sh := sh) (ct := ctOf [(82, s82), (68, s68), (134, s134)]) (na := 4) (m := 4) hct rfl rfl rfl rfl rfl rfl ?_
    show p166.fd (p166.ft [.yl 3, .ptr 0 0 0 0, .ptr 1 0 0 0, .ptr 2 0 0 0] [.box [.c (.str q)], .box [.c (.str s), .c (.sl 5 rn rt (rows rs)), .c (.sl 3 kn kt (encL ks))], .box [.fn 82 []], .yo u b]) =
      some (.out [] [.box [.c (.str q)], .box [.c (.str s), .c (.sl 5 rn rt (rows rs)), .c (.sl 3 kn kt (encL ks))], .box [.fn 82 []], .yo [] b])
    rw [t166, encL_length]
    have hkl := okL_len (okL_iff'.2 hk) (by omega)
    have hrl := right_len4 hr
    have hn' : rn ≠ some true ∨ rows rs = [] := hn.imp id fun h => by rw [h]; rfl
    rw [walkT_eq] at hw
    simp only [alA, cond_true] at hw
    obtain ⟨m, hu, hm0, hm1, hm2⟩ := want_take hw
    generalize hes : (ownW (q ++ s) rs ++ walkL alA (q ++ s) ks).map encE = es at *
    have hesl : es.length = (ownW (q ++ s) rs).length + (walkL alA (q ++ s) ks).length := by rw [← hes]; simp
    have at0 : At u b m 0 u := ⟨rfl, Nat.zero_le _, fun h => hm2 h⟩
    -- the kids
    have key : ∀ r : List (List V), At u b m (ownW (q ++ s) rs).length r → p166.fd (Tr.ls 0 (s166_0v q s rn rt (rows rs) kn kt (encL ks) r b (q ++ s) ks.length 0)) =
        some (.out [] [.box [.c (.str q)], .box [.c (.str s), .c (.sl 5 rn rt (rows rs)), .c (.sl 3 kn kt (encL ks))], .box [.fn 82 []], .yo [] b]) := by
      intro r hat
      refine fd_post hct (by kernel_rfl) rfl (list_post (p := p166) hct (b := b166_0v) ks.length (fun k (r : List (List V)) => s166_0v q s rn rt (rows rs) kn kt (encL ks) r b (q ++ s) ks.length k) (fun k r => At u b m ((ownW (q ++ s) rs).length + (walkL alA (q ++ s) (ks.take k)).length) r) _ ?_ ?_ 0 (Nat.zero_le _) r (by simpa [walkL] using hat))
      · intro k r hk2 hat
        have hT := hk.1 _ (List.getElem_mem hk2)
        obtain ⟨g1, g2, g3, g4, g5⟩ := okT_iff.1 hT
        have hkid : depL ks[k].kids < d := by have := depL_kid (List.getElem_mem hk2); omega
        have hnx := walkL_take alA (q ++ s) hk2
        have hle := walkL_take_le alA (q ++ s) ks (k + 1)
        have hesk : ∀ j, (hj : j < (walkT alA (q ++ s) ks[k]).length) → es[(ownW (q ++ s) rs).length + (walkL alA (q ++ s) (ks.take k)).length + j]? = some (encE (walkT alA (q ++ s) ks[k])[j]) := fun j hj => by
          rw [← hes, List.getElem?_map, List.getElem?_append_right (by omega)]
          have e0 : walkL alA (q ++ s) ks = walkL alA (q ++ s) (ks.take (k + 1)) ++ walkL alA (q ++ s) (ks.drop (k + 1)) := by rw [← walkL_app, List.take_append_drop]
          rw [e0, hnx, List.append_assoc, List.getElem?_append_right (by omega), List.getElem?_append_left (by omega)]
          have e1 : (ownW (q ++ s) rs).length + (walkL alA (q ++ s) (ks.take k)).length + j - (ownW (q ++ s) rs).length - (walkL alA (q ++ s) (ks.take k)).length = j := by omega
          rw [e1, List.getElem?_eq_getElem hj]; rfl
        rw [hnx, List.length_append] at hle
        have hin := ranges_post (p := p166) hct (c := b166_0v_0) (gi := 166) (caps := [.ptr 6 0 0 0, .ptr 5 0 0 0, .ptr 7 0 0 0]) (args := args166)
          (s0 := s166_0v_0 q s rn rt (rows rs) kn kt (encL ks) r b (q ++ s) ks.length k ks[k].lab none false (rows ks[k].rows) none false (encL ks[k].kids))
          (h0 := boxK (q ++ s) ks[k].lab none false (rows ks[k].rows) none false (encL ks[k].kids)) (ids := [6, 5, 7]) (by kernel_rfl) (walkT alA (q ++ s) ks[k]) encE rfl (by kernel_rfl)
          (by have := sq166_ok (q ++ s) ks[k].lab none false ks[k].rows none false ks[k].kids; rw [Nd.eta] at this; exact this)
          (fun u' b' hw' => ⟨_, _, f166 d (q ++ s) ks[k].lab none false ks[k].rows none false ks[k].kids (n - ks[k].lab.length) hkid (by rw [List.length_append]; omega) g5 g3 (.inl (by simp)) u' b' (by rw [Nd.eta]; exact hw'), rfl⟩)
          (fun (r : List (List V)) => g166_0v_0 q s rn rt (rows rs) kn kt (encL ks) r b (q ++ s) ks.length k)
          (fun (l : List Ent) r => ∃ j, l = (walkT alA (q ++ s) ks[k]).drop j ∧ j ≤ (walkT alA (q ++ s) ks[k]).length ∧ At u b m ((ownW (q ++ s) rs).length + (walkL alA (q ++ s) (ks.take k)).length + j) r)
          (fun y => (∃ r', At u b m ((ownW (q ++ s) rs).length + (walkL alA (q ++ s) (ks.take (k + 1))).length) r' ∧ p166.ld b166_0v (p166.lkx b166_0v 0 y) = some (R.s (s166_0v q s rn rt (rows rs) kn kt (encL ks) r' b (q ++ s) ks.length ((k + 1 : Nat) : Int)))) ∨
            (∃ x : Ex × Fr × Hp, x.1 ≠ .nrm ∧ p166.fd (p166.fkx 0 x) = some (.out [] [.box [.c (.str q)], .box [.c (.str s), .c (.sl 5 rn rt (rows rs)), .c (.sl 3 kn kt (encL ks))], .box [.fn 82 []], .yo [] b]) ∧ p166.ld b166_0v (p166.lkx b166_0v 0 y) = some (R.x x)))
          (by
            rintro ⟨p, prs⟩ l r ⟨j, hj, hjl, hat⟩
            have hj2 : j < (walkT alA (q ++ s) ks[k]).length := by
              rcases Nat.lt_or_ge j (walkT alA (q ++ s) ks[k]).length with h | h
              · exact h
              · rw [List.drop_of_length_le h] at hj; cases hj
            rw [List.drop_eq_getElem_cons hj2] at hj
            simp only [List.cons.injEq] at hj
            obtain ⟨hj3, rfl⟩ := hj
            have hee := hesk j hj2
            rw [← hj3] at hee
            obtain ⟨hc1, hc2⟩ := List.getElem?_eq_some_iff.1 hee
            obtain ⟨_, hr1, hr2, hr3⟩ := hat.next hu hm0 hm1 hc1
            rw [hc2] at hr1
            have hrd : p166.rds b166_0v_0 (g166_0v_0 q s rn rt (rows rs) kn kt (encL ks) r b (q ++ s) ks.length k) (p166.rts b166_0v_0 (encE (p, prs)) (g166_0v_0 q s rn rt (rows rs) kn kt (encL ks) r b (q ++ s) ks.length k)) =
                (if (!yoAns r b) = true then some (R.x (x166_0v_0x0 q s rn rt (rows rs) kn kt (encL ks) r b (q ++ s) ks.length k p (rows prs) none)) else some (R.s (g166_0v_0 q s rn rt (rows rs) kn kt (encL ks) r.tail b (q ++ s) ks.length k))) := by
              refine (congrArg _ (t166_0v_0 q s rn rt (rows rs) kn kt (encL ks) r b (q ++ s) ks.length k p (rows prs))).trans ?_
              have hyo : yoHd r [V.agg [V.c (C.str p), V.c (C.sl 5 none false (rows prs))]] = true := by rw [hr1]; exact eqb_encE p prs
              rw [rd_chk', if_pos hyo, rd_br, rd_leaf, rd_leaf]
            rcases hr3 with ⟨h1, h2⟩ | ⟨h1, h2, h3⟩
            · left
              refine ⟨r.tail, ⟨j + 1, rfl, by omega, ?_⟩, ?_⟩
              · rw [← Nat.add_assoc]; exact h2
              · rw [hrd, h1]; rfl
            · right
              refine ⟨x166_0v_0x0 q s rn rt (rows rs) kn kt (encL ks) r b (q ++ s) ks.length k p (rows prs) none, by simp, .inr ⟨x166_0vx0 q s rn rt (rows rs) kn kt (encL ks) r b (q ++ s) ks.length k p (rows prs) none, by simp, ?_, ?_⟩, ?_⟩
              · rw [k166_0vx0, fd_leaf, h2]
              · rw [k166_0v_0x0, ld_leaf]
              · rw [hrd, h1]; rfl)
          (by
            rintro r ⟨j, hj, hjl, hat⟩
            have hj2 : j = (walkT alA (q ++ s) ks[k]).length := by
              rcases Nat.lt_or_ge j (walkT alA (q ++ s) ks[k]).length with h | h
              · rw [List.drop_eq_getElem_cons h] at hj; cases hj
              · omega
            subst hj2
            left
            refine ⟨r, by rw [hnx, List.length_append, ← Nat.add_assoc]; exact hat, ?_⟩
            show p166.ld b166_0v (p166.lkx b166_0v 0 (x166_0v_0n q s rn rt (rows rs) kn kt (encL ks) r b (q ++ s) ks.length k)) = _
            rw [k166_0v_0n, ld_leaf, wrap_succ (by omega)])
          r rfl ⟨0, by simp, Nat.zero_le _, by simpa using hat⟩
        rw [t166_0v]
        simp only [nd_ok, nd_lab, nd_rows, nd_kids, encL_length, isL_enc, decL_enc, wrap_hd, hd_pos, ld_br, ld_chk', ld_leaf, fd_br, fd_chk', fd_leaf, decide_true, decide_eq_true_eq, if_true, Int.toNat_natCast, Int.natCast_nonneg, Int.ofNat_lt, Int.ofNat_le, Bool.false_eq_true, if_false, bne_iff_ne, beq_iff_eq, ne_eq, not_true_eq_false, not_false_eq_true, Bool.not_eq_true', decide_eq_false_iff_not, reduceCtorEq, rows_length, pcs_length, er_ok, er_ok', ep_ok, ep_ok', dr_er, dp_ep, isRows_rows, isPcs_pcs, toRows_rows, toPcs_pcs, rows_take, rows_drop, pcs_take, pcs_drop, rows_append, pcs_append, ints_length, isInts_ints, toInts_ints, ei_i, ei_ok, mk_headD, ints_take, ints_drop, ints_append, ints_snoc, ints_snoc', List.take_length, Nat.zero_add, Nat.le_refl, er_a, er_b, er_k, er_n, er_s, er_v, ep_a, ep_b, ep_hk, ep_hn, ep_hs, ep_wk, ep_wn, ep_ws, hk2, encL_getD hk2]
        obtain ⟨y, hy, hR⟩ := hin
        rcases hy with ⟨r', h1, h2⟩ | ⟨x, h1, h2, h3⟩
        · exact .inl ⟨r', h1, ld_rpost hct (by kernel_rfl) rfl ⟨y, h2, hR⟩⟩
        · exact .inr ⟨x, h1, h2, ld_rpost hct (by kernel_rfl) rfl ⟨y, h3, hR⟩⟩
      · intro r hat
        rw [List.take_length, ← hesl] at hat
        obtain ⟨rfl, rfl⟩ := hat.end_ hu hm0 rfl
        rw [t166_0v]
        exact ⟨x166_0vx1 q s rn rt (rows rs) kn kt (encL ks) [] false (q ++ s) ks.length ks.length, by simp, by rw [k166_0vx1, fd_leaf], by simp only [nd_ok, nd_lab, nd_rows, nd_kids, encL_length, isL_enc, decL_enc, wrap_hd, hd_pos, ld_br, ld_chk', ld_leaf, fd_br, fd_chk', fd_leaf, decide_true, decide_eq_true_eq, if_true, Int.toNat_natCast, Int.natCast_nonneg, Int.ofNat_lt, Int.ofNat_le, Bool.false_eq_true, if_false, bne_iff_ne, beq_iff_eq, ne_eq, not_true_eq_false, not_false_eq_true, Bool.not_eq_true', decide_eq_false_iff_not, reduceCtorEq, rows_length, pcs_length, er_ok, er_ok', ep_ok, ep_ok', dr_er, dp_ep, isRows_rows, isPcs_pcs, toRows_rows, toPcs_pcs, rows_take, rows_drop, pcs_take, pcs_drop, rows_append, pcs_append, ints_length, isInts_ints, toInts_ints, ei_i, ei_ok, mk_headD, ints_take, ints_drop, ints_append, ints_snoc, ints_snoc', List.take_length, Nat.zero_add, Nat.le_refl, er_a, er_b, er_k, er_n, er_s, er_v, ep_a, ep_b, ep_hk, ep_hn, ep_hs, ep_wk, ep_wn, ep_ws, Int.lt_irrefl]⟩
    have hql : q.length + s.length < 4294967296 := by omega
    have hrl2 : rs.length < 4294967296 := by omega
    simp only [nd_ok, nd_lab, nd_rows, nd_kids, encL_length, isL_enc, decL_enc, wrap_hd, hd_pos, ld_br, ld_chk', ld_leaf, fd_br, fd_chk', fd_leaf, decide_true, decide_eq_true_eq, if_true, Int.toNat_natCast, Int.natCast_nonneg, Int.ofNat_lt, Int.ofNat_le, Bool.false_eq_true, if_false, bne_iff_ne, beq_iff_eq, ne_eq, not_true_eq_false, not_false_eq_true, Bool.not_eq_true', decide_eq_false_iff_not, reduceCtorEq, rows_length, pcs_length, er_ok, er_ok', ep_ok, ep_ok', dr_er, dp_ep, isRows_rows, isPcs_pcs, toRows_rows, toPcs_pcs, rows_take, rows_drop, pcs_take, pcs_drop, rows_append, pcs_append, ints_length, isInts_ints, toInts_ints, ei_i, ei_ok, mk_headD, ints_take, ints_drop, ints_append, ints_snoc, ints_snoc', List.take_length, Nat.zero_add, Nat.le_refl, er_a, er_b, er_k, er_n, er_s, er_v, ep_a, ep_b, ep_hk, ep_hn, ep_hs, ep_wk, ep_wn, ep_ws, hql, hrl2]
    by_cases c : rs = []
    · subst c
      rw [if_neg (by simp)]
      exact key u at0
    · have c0 : (0 : Int) < rs.length := by have := List.length_pos_iff.2 c; omega
      obtain ⟨r0, rr, rfl⟩ : ∃ a r, rs = a :: r := by cases rs with | nil => exact absurd rfl c | cons a r => exact ⟨a, r, rfl⟩
      have ho : ownW (q ++ s) (r0 :: rr) = [(q ++ s, r0 :: rr)] := rfl
      have h0 : 0 < es.length := by rw [hesl, ho]; simp; omega
      have he0 : es[0] = encE (q ++ s, r0 :: rr) := by simp only [← hes, ho]; rfl
      obtain ⟨_, hr1, hr2, hr3⟩ := at0.next hu hm0 hm1 h0
      rw [he0] at hr1
      have hyo : yoHd u [V.agg [V.c (C.str (q ++ s)), V.c (C.sl 5 none false (rows (r0 :: rr)))]] = true := by rw [hr1]; exact eqb_encE _ _
      rw [if_pos c0]
      simp only [hn', hyo, if_true]
      rcases hr3 with ⟨h1, h2⟩ | ⟨h1, h2, h3⟩
      · rw [if_neg (by simp [h1])]
        exact key u.tail (by rw [ho]; exact h2)
      · rw [if_pos (by simp [h1]), h2]
end Go.Proofs.YtgaabjmbnomimaaDoor
namespace Go.Proofs.YtgaabjmbnomimaaDoor
open Go Go.Ev
-- cse
noncomputable abbrev p81 : Par := par E sh (ctOf [(28, s28), (134, s134), (82, s82)]) 81 3 0
abbrev s81_0 (s : Bys) (rn : OBo) (rt : Bool) (xs : LLC) (kn : OBo) (kt : Bool) (ys : LLC) (nl6 : OBo) (t6 : Bool) (xs6 : LLC) (ys1 : LLC) (nh2 : Nat) (sh4 : Bys) : Fr × Hp := ([(5, V.ptr 0 0 0 0), (6, V.c (C.sl 2 nl6 t6 xs6)), (7, V.ptr 2 0 0 0), (14, V.fn 166 [V.ptr 4 0 0 0, V.ptr 3 0 0 0, V.ptr 5 0 0 0])], [O.box [V.fn 82 []], O.mem 2 0 ys1, O.box [V.buf 1 0 0 nh2], O.box [V.c (C.str s), V.c (C.sl 5 rn rt xs), V.c (C.sl 3 kn kt ys)], O.box [V.c (C.str sh4)], O.box [V.fn 82 []]])
noncomputable abbrev b81_0 : Code := loopAt (codeOf E (81)) 0
abbrev g81_0 (nl6 : OBo) (t6 : Bool) (xs6 : LLC) (ys1 : LLC) (nh2 : Nat) : Fr × Hp := ([(5, V.ptr 0 0 0 0), (6, V.c (C.sl 2 nl6 t6 xs6)), (7, V.ptr 2 0 0 0), (14, V.fn 166 [V.ptr 4 0 0 0, V.ptr 3 0 0 0, V.ptr 5 0 0 0])], [O.box [V.fn 82 []], O.mem 2 0 ys1, O.box [V.buf 1 0 0 nh2], O.gone, O.gone, O.gone])
abbrev x81_0n (nl6 : OBo) (t6 : Bool) (xs6 : LLC) (ys1 : LLC) (nh2 : Nat) : Ex × Fr × Hp := (Ex.nrm, [(5, V.ptr 0 0 0 0), (6, V.c (C.sl 2 nl6 t6 xs6)), (7, V.ptr 2 0 0 0), (14, V.fn 166 [V.ptr 4 0 0 0, V.ptr 3 0 0 0, V.ptr 5 0 0 0])], [O.box [V.fn 82 []], O.mem 2 0 ys1, O.box [V.buf 1 0 0 nh2], O.gone, O.gone, O.gone])
theorem t81_0 (nl6 : OBo) (t6 : Bool) (xs6 : LLC) (ys1 : LLC) (nh2 : Nat) (p : Bys) (zs : LLC) : p81.rts b81_0 ([V.agg [V.c (C.str p), V.c (C.sl 5 none false zs)]]) (g81_0 nl6 t6 xs6 ys1 nh2) = (Tr.br true (Tr.chk true (Tr.chk true (Tr.chk (decide (nh2 + 1 < 4294967296)) (Tr.chk true (Tr.leaf (R.s (g81_0 nl6 t6 xs6 (List.take nh2 ys1 ++ [[C.str p, C.sl 5 none false zs]]) (nh2 + 1)))))))) (Tr.leaf (R.s (g81_0 nl6 t6 xs6 ys1 nh2)))) := by kernel_rfl
theorem k81_0n (nl6 : OBo) (t6 : Bool) (xs6 : LLC) (ys1 : LLC) (nh2 : Nat) : p81.fkx 0 (x81_0n nl6 t6 xs6 ys1 nh2) = (Tr.leaf (R.out [V.c (C.sl 2 none false (List.take nh2 ys1))] [])) := by kernel_rfl
theorem t81 (s : Bys) (rn : OBo) (rt : Bool) (xs : LLC) (kn : OBo) (kt : Bool) (ys : LLC) : p81.ft ([V.agg [V.c (C.str s), V.c (C.sl 5 rn rt xs), V.c (C.sl 3 kn kt ys)], V.fn 82 [], V.fn 82 []]) ([]) = (Tr.chk (isRows xs) (Tr.chk (isL ys) (Tr.br (checkT (Nd.node s (toRows xs) (decL ys)) != 0) (Tr.leaf (R.out [V.c (C.sl 2 none false [])] [])) (Tr.rs 0 (s81_0 s rn rt xs kn kt ys (some true) true ([]) ([]) (0) ([])))))) := by kernel_rfl
def s81 : CSpec := fun a h => match a, h with
  | [.agg [.c (.str s), .c (.sl 5 rn rt xs), .c (.sl 3 kn kt ys)], .fn 82 [], .fn 82 []], [] => some ([isRows xs, isL ys, decide ((entL (decL ys)).length < 1000000000)], [.c (.sl 2 none false (ents (entP (.node s (toRows xs) (decL ys)))))], [])
  | _, _ => none
noncomputable abbrev p34 : Par := par E sh (ctOf [(81, s81)]) 34 1 0
theorem t34 (s : Bys) (rn : OBo) (rt : Bool) (xs : LLC) (kn : OBo) (kt : Bool) (ys : LLC) : p34.ft ([V.agg [V.c (C.str s), V.c (C.sl 5 rn rt xs), V.c (C.sl 3 kn kt ys)]]) ([]) = (Tr.chk (isRows xs) (Tr.chk (isL ys) (Tr.chk (decide ((entL (decL ys)).length < 1000000000)) (Tr.leaf (R.out [V.c (C.sl 2 none false (ents (entP (Nd.node s (toRows xs) (decL ys)))))] []))))) := by kernel_rfl
end Go.Proofs.YtgaabjmbnomimaaDoor
namespace Go.Proofs.YtgaabjmbnomimaaDoor
open Go Go.Ev
theorem ownW_E (q : Bys) (rs : List Row) : ownW q rs = ownE q rs := by
  unfold ownE; cases rs <;> simp [ownW]
mutual
theorem walkT_all : ∀ (q : Bys) (t : Nd), walkT alA q t = pre q (entT t)
  | q, .node s rs ks => by
    rw [walkT_eq, entT_node, ← ownW_E, ← walkL_all (q ++ s) ks]; rfl
theorem walkL_all : ∀ (q : Bys) (l : List Nd), walkL alA q l = pre q (entL l)
  | q, [] => rfl
  | q, t :: r => by rw [walkL, entL, pre_app, walkT_all q t, walkL_all q r]
end
theorem walk_root (ks : List Nd) : walkT alA [] (.node [] [] ks) = entL ks := by
  rw [walkT_all, entT_node, List.nil_append, pre_nil]; rfl
theorem ents_take (l : List Ent) (n : Nat) (h : n = l.length) : List.take n (ents l) = ents l := by rw [h, ← ents_length, List.take_length]
theorem entP_node (s : Bys) (rs : List Row) (ks : List Nd) : entP (.node s rs ks) = cond (okR (.node s rs ks)) (entL ks) [] := rfl
theorem ents_snoc (l : List Ent) (p : Bys) (rs : List Row) : ents l ++ [[C.str p, C.sl 5 none false (rows rs)]] = ents (l ++ [(p, rs)]) := by simp [ents, ee]
theorem f81 (s : Bys) (rn : OBo) (rt : Bool) (rs : List Row) (kn : OBo) (kt : Bool) (ks : List Nd) (hn : (entL ks).length < 1000000000) :
    call E 81 [.agg [.c (.str s), .c (.sl 5 rn rt (rows rs)), .c (.sl 3 kn kt (encL ks))], .fn 82 [], .fn 82 []] [] = some ([.c (.sl 2 none false (ents (entP (.node s rs ks))))], []) := by
  have hct : (ctOf [(28, s28), (134, s134), (82, s82)]).ok E := ctOf_cons s28_ok (ctOf_cons s134_ok (ctOf_cons s82_ok ctOf_nil))
  refine call_of (E := E) (sh := sh) (ct := ctOf [(28, s28), (134, s134), (82, s82)]) (na := 3) (m := 0) hct rfl rfl rfl rfl rfl rfl ?_
  rw [t81]
  simp only [nd_ok, nd_lab, nd_rows, nd_kids, encL_length, isL_enc, decL_enc, wrap_hd, hd_pos, ld_br, ld_chk', ld_leaf, fd_br, fd_chk', fd_leaf, decide_true, decide_eq_true_eq, if_true, Int.toNat_natCast, Int.natCast_nonneg, Int.ofNat_lt, Int.ofNat_le, Bool.false_eq_true, if_false, bne_iff_ne, beq_iff_eq, ne_eq, not_true_eq_false, not_false_eq_true, Bool.not_eq_true', decide_eq_false_iff_not, reduceCtorEq, rows_length, pcs_length, er_ok, er_ok', ep_ok, ep_ok', dr_er, dp_ep, isRows_rows, isPcs_pcs, toRows_rows, toPcs_pcs, rows_take, rows_drop, pcs_take, pcs_drop, rows_append, pcs_append, ints_length, isInts_ints, toInts_ints, ei_i, ei_ok, mk_headD, ints_take, ints_drop, ints_append, ints_snoc, ints_snoc', List.take_length, Nat.zero_add, Nat.le_refl, er_a, er_b, er_k, er_n, er_s, er_v, ep_a, ep_b, ep_hk, ep_hn, ep_hs, ep_wk, ep_wn, ep_ws, checkT_ne]
  rw [entP_node]
  cases c1 : okR (.node s rs ks) with
  | false => rfl
  | true =>
    have c1' := okR_iff.1 c1
    simp only [Nd.lab_node, Nd.rows_node, Nd.kids_node] at c1'
    obtain ⟨rfl, rfl, hk⟩ := c1'
    simp only [Bool.not_true, Bool.false_eq_true, if_false, cond_true]
    refine fd_rpost hct (by kernel_rfl) rfl (ranges_post (p := p81) hct (c := b81_0) (gi := 166) (caps := [.ptr 4 0 0 0, .ptr 3 0 0 0, .ptr 5 0 0 0]) (args := args166)
      (h0 := boxK [] [] rn rt (rows []) kn kt (encL ks)) (ids := [4, 3, 5]) (by kernel_rfl) (entL ks) encE rfl (by kernel_rfl)
      (by have := sq166_ok [] [] rn rt [] kn kt ks; rw [walk_root] at this; exact this)
      (fun u b hw => ⟨_, _, f166 (depL ks + 1) [] [] rn rt [] kn kt ks 24 (Nat.lt_succ_self _) (by simp) hk rfl (.inr rfl) u b (by rw [walk_root]; exact hw), rfl⟩)
      (fun (acc : List Ent) => g81_0 (some true) true [] (ents acc) acc.length) (fun l acc => acc ++ l = entL ks) _ ?_ ?_ [] rfl rfl)
    · rintro ⟨p, prs⟩ l acc hi
      left
      have hlen : acc.length + 1 < 4294967296 := by
        have := congrArg List.length hi
        simp only [List.length_append, List.length_cons] at this; omega
      refine ⟨acc ++ [(p, prs)], by rw [← hi]; simp, ?_⟩
      refine (congrArg _ (t81_0 (some true) true [] (ents acc) acc.length p (rows prs))).trans ?_
      simp only [rd_br, rd_chk', rd_leaf, if_true, hlen, decide_true, ents_take acc acc.length rfl, ents_snoc, List.length_append, List.length_singleton]
    · intro acc hi
      rw [List.append_nil] at hi
      subst hi
      show p81.fd (p81.fkx 0 (x81_0n (some true) true [] (ents (entL ks)) (entL ks).length)) = _
      rw [k81_0n, fd_leaf, ents_take _ _ rfl]
theorem s81_ok : CSpecOk E 81 s81 := by
  intro a h cs vals h' he hc
  unfold s81 at he
  split at he <;> simp only [Option.some.injEq, Prod.mk.injEq, reduceCtorEq] at he
  rename_i s rn rt xs kn kt ys
  obtain ⟨rfl, rfl, rfl⟩ := he
  simp only [allT, Bool.and_true, Bool.and_eq_true, decide_eq_true_eq] at hc
  obtain ⟨h1, h2, h3⟩ := hc
  obtain ⟨rs, rfl⟩ := rows_ex h1
  obtain ⟨ks, rfl⟩ := isL_ex h2
  simp only [toRows_rows, decL_enc] at *
  exact f81 s rn rt rs kn kt ks h3
theorem f34 (s : Bys) (rn : OBo) (rt : Bool) (rs : List Row) (kn : OBo) (kt : Bool) (ks : List Nd) (hn : (entL ks).length < 1000000000) :
    call E 34 [.agg [.c (.str s), .c (.sl 5 rn rt (rows rs)), .c (.sl 3 kn kt (encL ks))]] [] = some ([.c (.sl 2 none false (ents (entP (.node s rs ks))))], []) := by
  refine call_of (E := E) (sh := sh) (ct := ctOf [(81, s81)]) (na := 1) (m := 0) (ctOf_cons s81_ok ctOf_nil) rfl rfl rfl rfl rfl rfl ?_
  rw [t34]
  simp only [nd_ok, nd_lab, nd_rows, nd_kids, encL_length, isL_enc, decL_enc, wrap_hd, hd_pos, ld_br, ld_chk', ld_leaf, fd_br, fd_chk', fd_leaf, decide_true, decide_eq_true_eq, if_true, Int.toNat_natCast, Int.natCast_nonneg, Int.ofNat_lt, Int.ofNat_le, Bool.false_eq_true, if_false, bne_iff_ne, beq_iff_eq, ne_eq, not_true_eq_false, not_false_eq_true, Bool.not_eq_true', decide_eq_false_iff_not, reduceCtorEq, rows_length, pcs_length, er_ok, er_ok', ep_ok, ep_ok', dr_er, dp_ep, isRows_rows, isPcs_pcs, toRows_rows, toPcs_pcs, rows_take, rows_drop, pcs_take, pcs_drop, rows_append, pcs_append, ints_length, isInts_ints, toInts_ints, ei_i, ei_ok, mk_headD, ints_take, ints_drop, ints_append, ints_snoc, ints_snoc', List.take_length, Nat.zero_add, Nat.le_refl, er_a, er_b, er_k, er_n, er_s, er_v, ep_a, ep_b, ep_hk, ep_hn, ep_hs, ep_wk, ep_wn, ep_ws, hn]
def s34 : CSpec := fun a h => match a, h with
  | [.agg [.c (.str s), .c (.sl 5 rn rt xs), .c (.sl 3 kn kt ys)]], [] => some ([isRows xs, isL ys, decide ((entL (decL ys)).length < 1000000000)], [.c (.sl 2 none false (ents (entP (.node s (toRows xs) (decL ys)))))], [])
  | _, _ => none
theorem s34_ok : CSpecOk E 34 s34 := by
  intro a h cs vals h' he hc
  unfold s34 at he
  split at he <;> simp only [Option.some.injEq, Prod.mk.injEq, reduceCtorEq] at he
  rename_i s rn rt xs kn kt ys
  obtain ⟨rfl, rfl, rfl⟩ := he
  simp only [allT, Bool.and_true, Bool.and_eq_true, decide_eq_true_eq] at hc
  obtain ⟨h1, h2, h3⟩ := hc
  obtain ⟨rs, rfl⟩ := rows_ex h1
  obtain ⟨ks, rfl⟩ := isL_ex h2
  simp only [toRows_rows, decL_enc] at *
  exact f34 s rn rt rs kn kt ks h3
end Go.Proofs.YtgaabjmbnomimaaDoor
namespace Go.Proofs.YtgaabjmbnomimaaDoor
open Go Go.Ev
-- cse
def s26 : CSpec := fun a h => match a, h with
  | [.c (.sl 5 nl tt xs), .c (.sl 5 nl2 t2 ys)], [] => some ([isRows xs, isRows ys, decide (xs.length ≤ 9223372036854775807)], [V.b (decide (toRows xs = toRows ys))], [])
  | _, _ => none
noncomputable abbrev p98 : Par := par E sh (ctOf []) 98 2 0
abbrev s98_0 (nl : OBo) (tt : Bool) (xs : LLC) (nl2 : OBo) (t2 : Bool) (ys : LLC) (i12 : Int) (i13 : Int) : Fr × Hp := ([(0, V.c (C.sl 5 nl tt xs)), (1, V.c (C.sl 5 nl2 t2 ys)), (12, V.c (C.int IntKind.i64 i12)), (13, V.c (C.int IntKind.i64 i13))], [])
noncomputable abbrev b98_0 : Code := loopAt (codeOf E (98)) 0
abbrev x98_0x0 : Ex × Fr × Hp := (Ex.ret, [(4, V.c (C.bool false))], [])
abbrev x98_0x1 (nl : OBo) (tt : Bool) (xs : LLC) (nl2 : OBo) (t2 : Bool) (ys : LLC) (i12 : Int) (i13 : Int) : Ex × Fr × Hp := (Ex.exit 0, [(0, V.c (C.sl 5 nl tt xs)), (1, V.c (C.sl 5 nl2 t2 ys)), (12, V.c (C.int IntKind.i64 i12)), (13, V.c (C.int IntKind.i64 i13)), (14, V.c (C.bool false))], [])
theorem t98_0 (nl : OBo) (tt : Bool) (xs : LLC) (nl2 : OBo) (t2 : Bool) (ys : LLC) (i12 : Int) (i13 : Int) : p98.lts b98_0 (s98_0 nl tt xs nl2 t2 ys i12 i13) = (Tr.br (decide (i13 < i12)) (Tr.chk (decide (0 ≤ i13)) (Tr.chk true (Tr.chk (decide (i13.toNat < xs.length)) (Tr.chk (shOk [Sk.int IntKind.i64, Sk.int IntKind.i64, Sk.int IntKind.i64, Sk.int IntKind.i64, Sk.str] (xs.getD i13.toNat [])) (Tr.chk (decide (0 ≤ i13)) (Tr.chk true (Tr.chk (decide (i13.toNat < ys.length)) (Tr.chk (shOk [Sk.int IntKind.i64, Sk.int IntKind.i64, Sk.int IntKind.i64, Sk.int IntKind.i64, Sk.str] (ys.getD i13.toNat [])) (Tr.br (!(((xs.getD i13.toNat []).headD C.pnil).i == ((ys.getD i13.toNat []).headD C.pnil).i && (((xs.getD i13.toNat []).tail.headD C.pnil).i == ((ys.getD i13.toNat []).tail.headD C.pnil).i && (((xs.getD i13.toNat []).tail.tail.headD C.pnil).i == ((ys.getD i13.toNat []).tail.tail.headD C.pnil).i && (((xs.getD i13.toNat []).tail.tail.tail.headD C.pnil).i == ((ys.getD i13.toNat []).tail.tail.tail.headD C.pnil).i && (((xs.getD i13.toNat []).tail.tail.tail.tail.headD C.pnil).st == ((ys.getD i13.toNat []).tail.tail.tail.tail.headD C.pnil).st && true)))))) (Tr.leaf (R.x x98_0x0)) (Tr.leaf (R.s (s98_0 nl tt xs nl2 t2 ys i12 (IntKind.i64.wrap (i13 + 1)))))))))))))) (Tr.leaf (R.x (x98_0x1 nl tt xs nl2 t2 ys i12 i13)))) := by kernel_rfl
theorem k98_0x0 : p98.fkx 0 x98_0x0 = (Tr.leaf (R.out [V.c (C.bool false)] [])) := by kernel_rfl
theorem k98_0x1 (nl : OBo) (tt : Bool) (xs : LLC) (nl2 : OBo) (t2 : Bool) (ys : LLC) (i12 : Int) (i13 : Int) : p98.fkx 0 (x98_0x1 nl tt xs nl2 t2 ys i12 i13) = (Tr.leaf (R.out [V.c (C.bool true)] [])) := by kernel_rfl
theorem t98 (nl : OBo) (tt : Bool) (xs : LLC) (nl2 : OBo) (t2 : Bool) (ys : LLC) : p98.ft ([V.c (C.sl 5 nl tt xs), V.c (C.sl 5 nl2 t2 ys)]) ([]) = (Tr.br ((↑xs.length : Int) != (↑ys.length : Int)) (Tr.leaf (R.out [V.c (C.bool false)] [])) (Tr.ls 0 (s98_0 nl tt xs nl2 t2 ys ((↑xs.length : Int)) (0)))) := by kernel_rfl
mutual
def sameT : Nd → Nd → Bool
  | .node a r k, .node b s l => decide (a = b) && decide (r = s) && sameL k l
def sameL : List Nd → List Nd → Bool
  | [], [] => true
  | x :: p, y :: q => sameT x y && sameL p q
  | _, _ => false
end
variable (dd : Nat)
def s17 : CSpec := fun a h => match a, h with
  | [.agg [.c (.str s), .c (.sl 5 rn rt xs), .c (.sl 3 kn kt ys)], .agg [.c (.str s2), .c (.sl 5 rn2 rt2 xs2), .c (.sl 3 kn2 kt2 ys2)]], [] => some ([isRows xs, isL ys, isRows xs2, isL ys2, decide (depL (decL ys) < dd), lensT (.node s (toRows xs) (decL ys))], [V.b (sameT (.node s (toRows xs) (decL ys)) (.node s2 (toRows xs2) (decL ys2)))], [])
  | _, _ => none
noncomputable abbrev p17 : Par := par E sh (ctOf [(26, s26), (17, s17 dd)]) 17 2 0
abbrev s17_0 (s : Bys) (rn : OBo) (rt : Bool) (xs : LLC) (kn : OBo) (kt : Bool) (ys : LLC) (s2 : Bys) (rn2 : OBo) (rt2 : Bool) (xs2 : LLC) (kn2 : OBo) (kt2 : Bool) (ys2 : LLC) (i5 : Int) : Fr × Hp := ([(2, V.ptr 0 0 0 0), (3, V.ptr 1 0 0 0), (5, V.c (C.int IntKind.i64 i5))], [O.box [V.c (C.str s), V.c (C.sl 5 rn rt xs), V.c (C.sl 3 kn kt ys)], O.box [V.c (C.str s2), V.c (C.sl 5 rn2 rt2 xs2), V.c (C.sl 3 kn2 kt2 ys2)]])
noncomputable abbrev b17_0 : Code := loopAt (codeOf E (17)) 0
abbrev x17_0x0 (s : Bys) (rn : OBo) (rt : Bool) (xs : LLC) (kn : OBo) (kt : Bool) (ys : LLC) (s2 : Bys) (rn2 : OBo) (rt2 : Bool) (xs2 : LLC) (kn2 : OBo) (kt2 : Bool) (ys2 : LLC) : Ex × Fr × Hp := (Ex.ret, [(4, V.c (C.bool false))], [O.box [V.c (C.str s), V.c (C.sl 5 rn rt xs), V.c (C.sl 3 kn kt ys)], O.box [V.c (C.str s2), V.c (C.sl 5 rn2 rt2 xs2), V.c (C.sl 3 kn2 kt2 ys2)]])
abbrev x17_0x1 (s : Bys) (rn : OBo) (rt : Bool) (xs : LLC) (kn : OBo) (kt : Bool) (ys : LLC) (s2 : Bys) (rn2 : OBo) (rt2 : Bool) (xs2 : LLC) (kn2 : OBo) (kt2 : Bool) (ys2 : LLC) (i5 : Int) : Ex × Fr × Hp := (Ex.exit 0, [(2, V.ptr 0 0 0 0), (3, V.ptr 1 0 0 0), (5, V.c (C.int IntKind.i64 i5)), (32, V.c (C.bool false))], [O.box [V.c (C.str s), V.c (C.sl 5 rn rt xs), V.c (C.sl 3 kn kt ys)], O.box [V.c (C.str s2), V.c (C.sl 5 rn2 rt2 xs2), V.c (C.sl 3 kn2 kt2 ys2)]])
theorem t17_0 (s : Bys) (rn : OBo) (rt : Bool) (xs : LLC) (kn : OBo) (kt : Bool) (ys : LLC) (s2 : Bys) (rn2 : OBo) (rt2 : Bool) (xs2 : LLC) (kn2 : OBo) (kt2 : Bool) (ys2 : LLC) (i5 : Int) : (p17 dd).lts b17_0 (s17_0 s rn rt xs kn kt ys s2 rn2 rt2 xs2 kn2 kt2 ys2 i5) = (Tr.br (decide (i5 < (↑ys.length : Int))) (Tr.chk (decide (0 ≤ i5)) (Tr.chk true (Tr.chk (decide (i5.toNat < ys.length)) (Tr.chk (shOk [Sk.str, Sk.sl 5, Sk.sl 3] (ys.getD i5.toNat [])) (Tr.chk (decide (0 ≤ i5)) (Tr.chk true (Tr.chk (decide (i5.toNat < ys2.length)) (Tr.chk (shOk [Sk.str, Sk.sl 5, Sk.sl 3] (ys2.getD i5.toNat [])) (Tr.chk (isRows ((ys.getD i5.toNat []).tail.headD C.pnil).xs) (Tr.chk (isL ((ys.getD i5.toNat []).tail.tail.headD C.pnil).xs) (Tr.chk (isRows ((ys2.getD i5.toNat []).tail.headD C.pnil).xs) (Tr.chk (isL ((ys2.getD i5.toNat []).tail.tail.headD C.pnil).xs) (Tr.chk (decide (depL (decL ((ys.getD i5.toNat []).tail.tail.headD C.pnil).xs) < dd)) (Tr.chk (lensT (Nd.node ((ys.getD i5.toNat []).headD C.pnil).st (toRows ((ys.getD i5.toNat []).tail.headD C.pnil).xs) (decL ((ys.getD i5.toNat []).tail.tail.headD C.pnil).xs))) (Tr.br (!sameT (Nd.node ((ys.getD i5.toNat []).headD C.pnil).st (toRows ((ys.getD i5.toNat []).tail.headD C.pnil).xs) (decL ((ys.getD i5.toNat []).tail.tail.headD C.pnil).xs)) (Nd.node ((ys2.getD i5.toNat []).headD C.pnil).st (toRows ((ys2.getD i5.toNat []).tail.headD C.pnil).xs) (decL ((ys2.getD i5.toNat []).tail.tail.headD C.pnil).xs))) (Tr.leaf (R.x (x17_0x0 s rn rt xs kn kt ys s2 rn2 rt2 xs2 kn2 kt2 ys2))) (Tr.leaf (R.s (s17_0 s rn rt xs kn kt ys s2 rn2 rt2 xs2 kn2 kt2 ys2 (IntKind.i64.wrap (i5 + 1)))))))))))))))))))) (Tr.leaf (R.x (x17_0x1 s rn rt xs kn kt ys s2 rn2 rt2 xs2 kn2 kt2 ys2 i5)))) := by kernel_rfl
theorem k17_0x0 (dd : Nat) (s : Bys) (rn : OBo) (rt : Bool) (xs : LLC) (kn : OBo) (kt : Bool) (ys : LLC) (s2 : Bys) (rn2 : OBo) (rt2 : Bool) (xs2 : LLC) (kn2 : OBo) (kt2 : Bool) (ys2 : LLC) : (p17 dd).fkx 0 (x17_0x0 s rn rt xs kn kt ys s2 rn2 rt2 xs2 kn2 kt2 ys2) = (Tr.leaf (R.out [V.c (C.bool false)] [])) := by kernel_rfl
theorem k17_0x1 (dd : Nat) (s : Bys) (rn : OBo) (rt : Bool) (xs : LLC) (kn : OBo) (kt : Bool) (ys : LLC) (s2 : Bys) (rn2 : OBo) (rt2 : Bool) (xs2 : LLC) (kn2 : OBo) (kt2 : Bool) (ys2 : LLC) (i5 : Int) : (p17 dd).fkx 0 (x17_0x1 s rn rt xs kn kt ys s2 rn2 rt2 xs2 kn2 kt2 ys2 i5) = (Tr.leaf (R.out [V.c (C.bool true)] [])) := by kernel_rfl
theorem t17 (s : Bys) (rn : OBo) (rt : Bool) (xs : LLC) (kn : OBo) (kt : Bool) (ys : LLC) (s2 : Bys) (rn2 : OBo) (rt2 : Bool) (xs2 : LLC) (kn2 : OBo) (kt2 : Bool) (ys2 : LLC) : (p17 dd).ft ([V.agg [V.c (C.str s), V.c (C.sl 5 rn rt xs), V.c (C.sl 3 kn kt ys)], V.agg [V.c (C.str s2), V.c (C.sl 5 rn2 rt2 xs2), V.c (C.sl 3 kn2 kt2 ys2)]]) ([]) = (Tr.br (!s == s2) (Tr.leaf (R.out [V.c (C.bool false)] [])) (Tr.chk (isRows xs) (Tr.chk (isRows xs2) (Tr.chk (decide (xs.length ≤ 9223372036854775807)) (Tr.br (!decide (toRows xs = toRows xs2)) (Tr.leaf (R.out [V.c (C.bool false)] [])) (Tr.br ((↑ys.length : Int) != (↑ys2.length : Int)) (Tr.leaf (R.out [V.c (C.bool false)] [])) (Tr.ls 0 (s17_0 s rn rt xs kn kt ys s2 rn2 rt2 xs2 kn2 kt2 ys2 (0))))))))) := by kernel_rfl
end Go.Proofs.YtgaabjmbnomimaaDoor
namespace Go.Proofs.YtgaabjmbnomimaaDoor
open Go Go.Ev
theorem s26_ok : CSpecOk E 26 s26 := by
  intro a h cs vals h' he hc
  unfold s26 at he
  split at he <;> simp only [Option.some.injEq, Prod.mk.injEq, reduceCtorEq] at he
  rename_i nl tt xs nl2 t2 ys
  obtain ⟨rfl, rfl, rfl⟩ := he
  simp only [allT, Bool.and_true, Bool.and_eq_true, decide_eq_true_eq] at hc
  obtain ⟨h1, h2, h3⟩ := hc
  obtain ⟨l, rfl⟩ := rows_ex h1
  obtain ⟨m, rfl⟩ := rows_ex h2
  simp only [toRows_rows, rows_length] at *
  exact f26 l m nl tt nl2 t2 h3
theorem f98 (l m : List Row) (nl : OBo) (tt : Bool) (nl2 : OBo) (t2 : Bool) (hl : l.length ≤ 9223372036854775807) : call E 98 [.c (.sl 5 nl tt (rows l)), .c (.sl 5 nl2 t2 (rows m))] [] = some ([V.b (decide (l = m))], []) := by
  refine call_of (E := E) (sh := sh) (ct := ctOf []) (na := 2) (m := 0) ctOf_nil rfl rfl rfl rfl rfl rfl ?_
  rw [t98]
  simp only [ld_br, ld_chk', ld_leaf, fd_br, fd_chk', fd_leaf, decide_true, decide_eq_true_eq, if_true, Int.toNat_natCast, Int.natCast_nonneg, Int.ofNat_lt, Int.ofNat_le, Bool.false_eq_true, if_false, bne_iff_ne, beq_iff_eq, ne_eq, not_true_eq_false, not_false_eq_true, Bool.not_eq_true', decide_eq_false_iff_not, reduceCtorEq, rows_length, pcs_length, er_ok, er_ok', ep_ok, ep_ok', dr_er, dp_ep, isRows_rows, isPcs_pcs, toRows_rows, toPcs_pcs, rows_take, rows_drop, pcs_take, pcs_drop, rows_append, pcs_append, ints_length, isInts_ints, toInts_ints, ei_i, ei_ok, mk_headD, ints_take, ints_drop, ints_append, ints_snoc, ints_snoc', List.take_length, Nat.zero_add, Nat.le_refl, er_a, er_b, er_k, er_n, er_s, er_v, ep_a, ep_b, ep_hk, ep_hn, ep_hs, ep_wk, ep_wn, ep_ws]
  by_cases h : l.length = m.length
  · have h' : ¬ ¬ (l.length : Int) = m.length := by omega
    rw [if_neg h']
    refine fd_post ctOf_nil (by kernel_rfl) rfl (list_post ctOf_nil (b := b98_0) l.length (fun k (_ : Unit) => s98_0 nl tt (rows l) nl2 t2 (rows m) l.length k) (fun k _ => l.take k = m.take k) _ ?_ ?_ 0 (Nat.zero_le _) () (by rfl))
    · intro k _ hk hi
      have hm : k < m.length := by omega
      rw [t98_0]
      simp only [ld_br, ld_chk', ld_leaf, fd_br, fd_chk', fd_leaf, decide_true, decide_eq_true_eq, if_true, Int.toNat_natCast, Int.natCast_nonneg, Int.ofNat_lt, Int.ofNat_le, Bool.false_eq_true, if_false, bne_iff_ne, beq_iff_eq, ne_eq, not_true_eq_false, not_false_eq_true, Bool.not_eq_true', decide_eq_false_iff_not, reduceCtorEq, rows_length, pcs_length, er_ok, er_ok', ep_ok, ep_ok', dr_er, dp_ep, isRows_rows, isPcs_pcs, toRows_rows, toPcs_pcs, rows_take, rows_drop, pcs_take, pcs_drop, rows_append, pcs_append, ints_length, isInts_ints, toInts_ints, ei_i, ei_ok, mk_headD, ints_take, ints_drop, ints_append, ints_snoc, ints_snoc', List.take_length, Nat.zero_add, Nat.le_refl, er_a, er_b, er_k, er_n, er_s, er_v, ep_a, ep_b, ep_hk, ep_hn, ep_hs, ep_wk, ep_wn, ep_ws, hk, hm, rows_getD hk, rows_getD hm, row_eqb, wrap_succ (show k < 9223372036854775807 by omega)]
      by_cases he : l[k] = m[k]
      · left
        exact ⟨(), take_ext hi hk hm he, by simp [he]⟩
      · right
        refine ⟨x98_0x0, by simp, ?_, by simp [he]⟩
        rw [k98_0x0, fd_leaf, decide_eq_false (fun e => he (by subst e; rfl))]
    · intro _ hi
      rw [t98_0]
      refine ⟨x98_0x1 nl tt (rows l) nl2 t2 (rows m) l.length l.length, by simp, ?_, by simp only [ld_br, ld_chk', ld_leaf, fd_br, fd_chk', fd_leaf, decide_true, decide_eq_true_eq, if_true, Int.toNat_natCast, Int.natCast_nonneg, Int.ofNat_lt, Int.ofNat_le, Bool.false_eq_true, if_false, bne_iff_ne, beq_iff_eq, ne_eq, not_true_eq_false, not_false_eq_true, Bool.not_eq_true', decide_eq_false_iff_not, reduceCtorEq, rows_length, pcs_length, er_ok, er_ok', ep_ok, ep_ok', dr_er, dp_ep, isRows_rows, isPcs_pcs, toRows_rows, toPcs_pcs, rows_take, rows_drop, pcs_take, pcs_drop, rows_append, pcs_append, ints_length, isInts_ints, toInts_ints, ei_i, ei_ok, mk_headD, ints_take, ints_drop, ints_append, ints_snoc, ints_snoc', List.take_length, Nat.zero_add, Nat.le_refl, er_a, er_b, er_k, er_n, er_s, er_v, ep_a, ep_b, ep_hk, ep_hn, ep_hs, ep_wk, ep_wn, ep_ws, Int.lt_irrefl]⟩
      rw [List.take_length, h, List.take_length] at hi
      rw [k98_0x1, fd_leaf, decide_eq_true hi]
  · have h' : ¬ (l.length : Int) = m.length := by omega
    rw [if_pos h', decide_eq_false (fun e => h (by rw [e]))]
def s98 : CSpec := fun a h => match a, h with
  | [.c (.sl 5 nl tt xs), .c (.sl 5 nl2 t2 ys)], [] => some ([isRows xs, isRows ys, decide (xs.length ≤ 9223372036854775807)], [V.b (decide (toRows xs = toRows ys))], [])
  | _, _ => none
theorem s98_ok : CSpecOk E 98 s98 := by
  intro a h cs vals h' he hc
  unfold s98 at he
  split at he <;> simp only [Option.some.injEq, Prod.mk.injEq, reduceCtorEq] at he
  rename_i nl tt xs nl2 t2 ys
  obtain ⟨rfl, rfl, rfl⟩ := he
  simp only [allT, Bool.and_true, Bool.and_eq_true, decide_eq_true_eq] at hc
  obtain ⟨h1, h2, h3⟩ := hc
  obtain ⟨l, rfl⟩ := rows_ex h1
  obtain ⟨m, rfl⟩ := rows_ex h2
  simp only [toRows_rows, rows_length] at *
  exact f98 l m nl tt nl2 t2 h3
mutual
theorem sameT_iff : ∀ (a b : Nd), sameT a b = true ↔ a = b
  | .node a r k, .node b s l => by
    rw [sameT]
    simp only [Bool.and_eq_true, decide_eq_true_eq, sameL_iff k l, Nd.node.injEq, and_assoc]
theorem sameL_iff : ∀ (a b : List Nd), sameL a b = true ↔ a = b
  | [], [] => by simp [sameL]
  | x :: p, y :: q => by simp only [sameL, Bool.and_eq_true, sameT_iff x y, sameL_iff p q, List.cons.injEq]
  | [], _ :: _ => by simp [sameL]
  | _ :: _, [] => by simp [sameL]
end
theorem sameT_refl (a : Nd) : sameT a a = true := (sameT_iff a a).2 rfl
theorem sameT_dec (a b : Nd) : sameT a b = false ↔ a ≠ b := by rw [← Bool.not_eq_true, sameT_iff]
theorem sameL_ne {a b : List Nd} (h : a ≠ b) : sameL a b = false := by rw [← Bool.not_eq_true, sameL_iff]; exact h
theorem f17 (dd : Nat) (ih : CSpecOk E 17 (s17 dd)) (t t2 : Nd) (rn : OBo) (rt : Bool) (kn : OBo) (kt : Bool) (rn2 : OBo) (rt2 : Bool) (kn2 : OBo) (kt2 : Bool) (hd : depL t.kids < dd + 1) (hl : lensT t = true) :
    call E 17 [.agg [.c (.str t.lab), .c (.sl 5 rn rt (rows t.rows)), .c (.sl 3 kn kt (encL t.kids))], .agg [.c (.str t2.lab), .c (.sl 5 rn2 rt2 (rows t2.rows)), .c (.sl 3 kn2 kt2 (encL t2.kids))]] [] = some ([V.b (sameT t t2)], []) := by
  have hct : (ctOf [(26, s26), (17, s17 dd)]).ok E := ctOf_cons s26_ok (ctOf_cons ih ctOf_nil)
  refine call_of (E := E) (sh := sh) (ct := ctOf [(26, s26), (17, s17 dd)]) (na := 2) (m := 0) hct rfl rfl rfl rfl rfl rfl ?_
  show (p17 dd).fd ((p17 dd).ft _ _) = _
  obtain ⟨s, rs, ks⟩ := t
  obtain ⟨s2, rs2, ks2⟩ := t2
  rw [lensT] at hl
  simp only [Nd.lab_node, Nd.rows_node, Nd.kids_node, Bool.and_eq_true, decide_eq_true_eq] at hd hl ⊢
  obtain ⟨⟨⟨l1, l2⟩, l3⟩, l4⟩ := hl
  rw [t17, sameT]
  have e1 : (!s == s2) = !decide (s = s2) := by rw [beqL]
  simp only [nd_ok, nd_lab, nd_rows, nd_kids, encL_length, isL_enc, decL_enc, wrap_hd, hd_pos, ld_br, ld_chk', ld_leaf, fd_br, fd_chk', fd_leaf, decide_true, decide_eq_true_eq, if_true, Int.toNat_natCast, Int.natCast_nonneg, Int.ofNat_lt, Int.ofNat_le, Bool.false_eq_true, if_false, bne_iff_ne, beq_iff_eq, ne_eq, not_true_eq_false, not_false_eq_true, Bool.not_eq_true', decide_eq_false_iff_not, reduceCtorEq, rows_length, pcs_length, er_ok, er_ok', ep_ok, ep_ok', dr_er, dp_ep, isRows_rows, isPcs_pcs, toRows_rows, toPcs_pcs, rows_take, rows_drop, pcs_take, pcs_drop, rows_append, pcs_append, ints_length, isInts_ints, toInts_ints, ei_i, ei_ok, mk_headD, ints_take, ints_drop, ints_append, ints_snoc, ints_snoc', List.take_length, Nat.zero_add, Nat.le_refl, er_a, er_b, er_k, er_n, er_s, er_v, ep_a, ep_b, ep_hk, ep_hn, ep_hs, ep_wk, ep_wn, ep_ws, e1, l2]
  by_cases c1 : s = s2
  case neg => simp [c1]
  by_cases c2 : rs = rs2
  case neg => simp [c1, c2]
  by_cases c3 : ks.length = ks2.length
  case neg =>
    have : ks ≠ ks2 := fun e => c3 (by rw [e])
    rw [sameL_ne this]
    simp [c1, c2, show ¬ (ks.length : Int) = ks2.length by omega]
  subst c1; subst c2
  have c3' : (ks.length : Int) = ks2.length := by omega
  simp only [c3', decide_true, Bool.not_true, Bool.false_eq_true, if_false, Bool.true_and, not_true_eq_false]
  refine fd_post hct (by kernel_rfl) rfl (list_post (p := p17 dd) hct (b := b17_0) ks.length (fun k (_ : Unit) => s17_0 s rn rt (rows rs) kn kt (encL ks) s rn2 rt2 (rows rs) kn2 kt2 (encL ks2) k) (fun k _ => ks.take k = ks2.take k) _ ?_ ?_ 0 (Nat.zero_le _) () (by simp))
  · intro k _ hk hi
    have hm : k < ks2.length := by omega
    have hkid : depL ks[k].kids < dd := by have := depL_kid (List.getElem_mem hk); omega
    rw [t17_0]
    simp only [nd_ok, nd_lab, nd_rows, nd_kids, encL_length, isL_enc, decL_enc, wrap_hd, hd_pos, ld_br, ld_chk', ld_leaf, fd_br, fd_chk', fd_leaf, decide_true, decide_eq_true_eq, if_true, Int.toNat_natCast, Int.natCast_nonneg, Int.ofNat_lt, Int.ofNat_le, Bool.false_eq_true, if_false, bne_iff_ne, beq_iff_eq, ne_eq, not_true_eq_false, not_false_eq_true, Bool.not_eq_true', decide_eq_false_iff_not, reduceCtorEq, rows_length, pcs_length, er_ok, er_ok', ep_ok, ep_ok', dr_er, dp_ep, isRows_rows, isPcs_pcs, toRows_rows, toPcs_pcs, rows_take, rows_drop, pcs_take, pcs_drop, rows_append, pcs_append, ints_length, isInts_ints, toInts_ints, ei_i, ei_ok, mk_headD, ints_take, ints_drop, ints_append, ints_snoc, ints_snoc', List.take_length, Nat.zero_add, Nat.le_refl, er_a, er_b, er_k, er_n, er_s, er_v, ep_a, ep_b, ep_hk, ep_hn, ep_hs, ep_wk, ep_wn, ep_ws, hk, hm, encL_getD hk, encL_getD hm, nd_node, hkid, lensL_mem l4 (List.getElem_mem hk), wrap_succ (show k < 9223372036854775807 by omega)]
    by_cases he : ks[k] = ks2[k]
    · left
      refine ⟨(), take_ext hi hk hm he, ?_⟩
      rw [(sameT_iff _ _).2 he]; rfl
    · right
      refine ⟨x17_0x0 s rn rt (rows rs) kn kt (encL ks) s rn2 rt2 (rows rs) kn2 kt2 (encL ks2), by simp, ?_, by rw [(sameT_dec _ _).2 he]; rfl⟩
      rw [k17_0x0, fd_leaf, sameL_ne (fun e => he (by subst e; rfl))]
  · intro _ hi
    rw [t17_0]
    refine ⟨x17_0x1 s rn rt (rows rs) kn kt (encL ks) s rn2 rt2 (rows rs) kn2 kt2 (encL ks2) ks.length, by simp, ?_, by simp only [nd_ok, nd_lab, nd_rows, nd_kids, encL_length, isL_enc, decL_enc, wrap_hd, hd_pos, ld_br, ld_chk', ld_leaf, fd_br, fd_chk', fd_leaf, decide_true, decide_eq_true_eq, if_true, Int.toNat_natCast, Int.natCast_nonneg, Int.ofNat_lt, Int.ofNat_le, Bool.false_eq_true, if_false, bne_iff_ne, beq_iff_eq, ne_eq, not_true_eq_false, not_false_eq_true, Bool.not_eq_true', decide_eq_false_iff_not, reduceCtorEq, rows_length, pcs_length, er_ok, er_ok', ep_ok, ep_ok', dr_er, dp_ep, isRows_rows, isPcs_pcs, toRows_rows, toPcs_pcs, rows_take, rows_drop, pcs_take, pcs_drop, rows_append, pcs_append, ints_length, isInts_ints, toInts_ints, ei_i, ei_ok, mk_headD, ints_take, ints_drop, ints_append, ints_snoc, ints_snoc', List.take_length, Nat.zero_add, Nat.le_refl, er_a, er_b, er_k, er_n, er_s, er_v, ep_a, ep_b, ep_hk, ep_hn, ep_hs, ep_wk, ep_wn, ep_ws, Int.lt_irrefl]⟩
    rw [List.take_length, c3, List.take_length] at hi
    rw [k17_0x1, fd_leaf, (sameL_iff _ _).2 hi]
theorem s17_ok : ∀ d, CSpecOk E 17 (s17 d)
  | 0 => by
    intro a h cs vals h' he hc
    unfold s17 at he
    split at he <;> simp only [Option.some.injEq, Prod.mk.injEq, reduceCtorEq] at he
    obtain ⟨rfl, rfl, rfl⟩ := he
    simp [allT] at hc
  | d + 1 => by
    intro a h cs vals h' he hc
    unfold s17 at he
    split at he <;> simp only [Option.some.injEq, Prod.mk.injEq, reduceCtorEq] at he
    rename_i s rn rt xs kn kt ys s2 rn2 rt2 xs2 kn2 kt2 ys2
    obtain ⟨rfl, rfl, rfl⟩ := he
    simp only [allT, Bool.and_true, Bool.and_eq_true, decide_eq_true_eq] at hc
    obtain ⟨h1, h2, h3, h4, h5, h6⟩ := hc
    obtain ⟨rs, rfl⟩ := rows_ex h1
    obtain ⟨ks, rfl⟩ := isL_ex h2
    obtain ⟨rs2, rfl⟩ := rows_ex h3
    obtain ⟨ks2, rfl⟩ := isL_ex h4
    simp only [toRows_rows, decL_enc] at *
    exact f17 d (s17_ok d) (.node s rs ks) (.node s2 rs2 ks2) rn rt kn kt rn2 rt2 kn2 kt2 h5 h6
def s17n : CSpec := fun a h => match a, h with
  | [.agg [.c (.str s), .c (.sl 5 rn rt xs), .c (.sl 3 kn kt ys)], .agg [.c (.str s2), .c (.sl 5 rn2 rt2 xs2), .c (.sl 3 kn2 kt2 ys2)]], [] => some ([isRows xs, isL ys, isRows xs2, isL ys2, lensT (.node s (toRows xs) (decL ys))], [V.b (sameT (.node s (toRows xs) (decL ys)) (.node s2 (toRows xs2) (decL ys2)))], [])
  | _, _ => none
theorem s17n_ok : CSpecOk E 17 s17n := by
  intro a h cs vals h' he hc
  unfold s17n at he
  split at he <;> simp only [Option.some.injEq, Prod.mk.injEq, reduceCtorEq] at he
  rename_i s rn rt xs kn kt ys s2 rn2 rt2 xs2 kn2 kt2 ys2
  obtain ⟨rfl, rfl, rfl⟩ := he
  simp only [allT, Bool.and_true, Bool.and_eq_true, decide_eq_true_eq] at hc
  obtain ⟨h1, h2, h3, h4, h6⟩ := hc
  obtain ⟨rs, rfl⟩ := rows_ex h1
  obtain ⟨ks, rfl⟩ := isL_ex h2
  obtain ⟨rs2, rfl⟩ := rows_ex h3
  obtain ⟨ks2, rfl⟩ := isL_ex h4
  simp only [toRows_rows, decL_enc] at *
  exact f17 (depL ks) (s17_ok _) (.node s rs ks) (.node s2 rs2 ks2) rn rt kn kt rn2 rt2 kn2 kt2 (Nat.lt_succ_self _) h6
mutual
theorem okT_lens : ∀ (t : Nd) (n : Nat), n ≤ 24 → okT t n = true → lensT t = true
  | .node s rs ks, n, hn, h => by
    obtain ⟨g1, g2, g3, g4, g5⟩ := okT_iff.1 h
    simp only [Nd.lab_node, Nd.rows_node, Nd.kids_node] at g1 g2 g3 g4 g5
    have h1 := right_len4 g3
    have h2 := okL_len (okL_iff'.2 g5) (by omega)
    rw [lensT, kidsOk_lens ks _ (by omega) g5]
    simp only [Bool.and_true, Bool.and_eq_true, decide_eq_true_eq]
    omega
theorem kidsOk_lens : ∀ (l : List Nd) (n : Nat), n ≤ 24 → kidsOk l n → lensL l = true
  | [], _, _, _ => rfl
  | t :: r, n, hn, h => by
    rw [lensL, okT_lens t n hn (h.1 t (by simp)), kidsOk_lens r n hn (kidsOk_sub h (List.sublist_cons_self _ _))]; rfl
end
theorem okR_lens {t : Nd} (h : okR t = true) : lensT t = true := by
  obtain ⟨h1, h2, h3⟩ := okR_iff.1 h
  have h4 := okL_len (okL_iff'.2 h3) (by omega)
  rw [lensT_eq, h1, h2, kidsOk_lens _ 24 (Nat.le_refl _) h3]
  simp; omega
end Go.Proofs.YtgaabjmbnomimaaDoor
namespace Go.Proofs.YtgaabjmbnomimaaDoor
open Go Go.Ev
-- cse
noncomputable abbrev p138 : Par := par E sh (ctOf [(98, s98)]) 138 3 1
theorem t138a (p : Bys) (n0 : OBo) (t0 : Bool) (x0 : LLC) (n1 : OBo) (t1 : Bool) (x1 : LLC) (n2 : OBo) (t2 : Bool) (x2 : LLC) : p138.ft ([V.i 1, V.i 2, V.ptr 0 0 0 0]) ([O.box [V.c (C.str p), V.c (C.sl 5 n0 t0 x0), V.c (C.sl 5 n1 t1 x1), V.c (C.sl 5 n2 t2 x2)]]) = (Tr.chk true (Tr.chk true (Tr.chk true (Tr.chk true (Tr.chk (isRows x1) (Tr.chk (isRows x2) (Tr.chk (decide (x1.length ≤ 9223372036854775807)) (Tr.leaf (R.out [V.c (C.bool (decide (toRows x1 = toRows x2)))] [O.box [V.c (C.str p), V.c (C.sl 5 n0 t0 x0), V.c (C.sl 5 n1 t1 x1), V.c (C.sl 5 n2 t2 x2)]]))))))))) := by kernel_rfl
theorem t138b (p : Bys) (n0 : OBo) (t0 : Bool) (x0 : LLC) (n1 : OBo) (t1 : Bool) (x1 : LLC) (n2 : OBo) (t2 : Bool) (x2 : LLC) : p138.ft ([V.i 0, V.i 2, V.ptr 0 0 0 0]) ([O.box [V.c (C.str p), V.c (C.sl 5 n0 t0 x0), V.c (C.sl 5 n1 t1 x1), V.c (C.sl 5 n2 t2 x2)]]) = (Tr.chk true (Tr.chk true (Tr.chk true (Tr.chk true (Tr.chk (isRows x0) (Tr.chk (isRows x2) (Tr.chk (decide (x0.length ≤ 9223372036854775807)) (Tr.leaf (R.out [V.c (C.bool (decide (toRows x0 = toRows x2)))] [O.box [V.c (C.str p), V.c (C.sl 5 n0 t0 x0), V.c (C.sl 5 n1 t1 x1), V.c (C.sl 5 n2 t2 x2)]]))))))))) := by kernel_rfl
theorem t138c (p : Bys) (n0 : OBo) (t0 : Bool) (x0 : LLC) (n1 : OBo) (t1 : Bool) (x1 : LLC) (n2 : OBo) (t2 : Bool) (x2 : LLC) : p138.ft ([V.i 0, V.i 1, V.ptr 0 0 0 0]) ([O.box [V.c (C.str p), V.c (C.sl 5 n0 t0 x0), V.c (C.sl 5 n1 t1 x1), V.c (C.sl 5 n2 t2 x2)]]) = (Tr.chk true (Tr.chk true (Tr.chk true (Tr.chk true (Tr.chk (isRows x0) (Tr.chk (isRows x1) (Tr.chk (decide (x0.length ≤ 9223372036854775807)) (Tr.leaf (R.out [V.c (C.bool (decide (toRows x0 = toRows x1)))] [O.box [V.c (C.str p), V.c (C.sl 5 n0 t0 x0), V.c (C.sl 5 n1 t1 x1), V.c (C.sl 5 n2 t2 x2)]]))))))))) := by kernel_rfl
def pick3 (i : Int) (a b c : LLC) : List (List C) := if i = 0 then a else if i = 1 then b else c
def s138 : CSpec := fun a h => match a, h with
  | [.c (.int .i64 i), .c (.int .i64 k), .ptr 0 0 0 0], [.box [.c (.str p), .c (.sl 5 n0 t0 x0), .c (.sl 5 n1 t1 x1), .c (.sl 5 n2 t2 x2)]] => some ([decide ((i = 1 ∧ k = 2) ∨ (i = 0 ∧ k = 2) ∨ (i = 0 ∧ k = 1)), isRows x0, isRows x1, isRows x2, decide (x0.length ≤ 9223372036854775807), decide (x1.length ≤ 9223372036854775807)], [V.b (decide (toRows (pick3 i x0 x1 x2) = toRows (pick3 k x0 x1 x2)))], [.box [.c (.str p), .c (.sl 5 n0 t0 x0), .c (.sl 5 n1 t1 x1), .c (.sl 5 n2 t2 x2)]])
  | _, _ => none
noncomputable abbrev p95 : Par := par E sh (ctOf [(138, s138)]) 95 1 0
theorem t95 (p : Bys) (n0 : OBo) (t0 : Bool) (x0 : LLC) (n1 : OBo) (t1 : Bool) (x1 : LLC) (n2 : OBo) (t2 : Bool) (x2 : LLC) : p95.ft ([V.agg [V.c (C.str p), V.c (C.sl 5 n0 t0 x0), V.c (C.sl 5 n1 t1 x1), V.c (C.sl 5 n2 t2 x2)]]) ([]) = (Tr.chk true (Tr.chk (isRows x0) (Tr.chk (isRows x1) (Tr.chk (isRows x2) (Tr.chk (decide (x0.length ≤ 9223372036854775807)) (Tr.chk (decide (x1.length ≤ 9223372036854775807)) (Tr.br (decide (toRows (pick3 1 x0 x1 x2) = toRows (pick3 2 x0 x1 x2))) (Tr.chk true (Tr.chk true (Tr.leaf (R.out [V.c (C.sl 5 none false x1), V.c (C.bool true)] [])))) (Tr.chk true (Tr.chk (isRows x0) (Tr.chk (isRows x1) (Tr.chk (isRows x2) (Tr.chk (decide (x0.length ≤ 9223372036854775807)) (Tr.chk (decide (x1.length ≤ 9223372036854775807)) (Tr.br (decide (toRows (pick3 0 x0 x1 x2) = toRows (pick3 2 x0 x1 x2))) (Tr.chk true (Tr.chk true (Tr.leaf (R.out [V.c (C.sl 5 none false x1), V.c (C.bool true)] [])))) (Tr.chk true (Tr.chk (isRows x0) (Tr.chk (isRows x1) (Tr.chk (isRows x2) (Tr.chk (decide (x0.length ≤ 9223372036854775807)) (Tr.chk (decide (x1.length ≤ 9223372036854775807)) (Tr.br (decide (toRows (pick3 0 x0 x1 x2) = toRows (pick3 1 x0 x1 x2))) (Tr.chk true (Tr.chk true (Tr.leaf (R.out [V.c (C.sl 5 none false x2), V.c (C.bool true)] [])))) (Tr.leaf (R.out [V.c (C.sl 5 none false []), V.c (C.bool false)] []))))))))))))))))))))))) := by kernel_rfl
noncomputable abbrev p136 : Par := par E sh (ctOf [(28, s28)]) 136 1 0
theorem t136 (s : Bys) (rn : OBo) (rt : Bool) (xs : LLC) (kn : OBo) (kt : Bool) (ys : LLC) : p136.ft ([V.agg [V.c (C.str s), V.c (C.sl 5 rn rt xs), V.c (C.sl 3 kn kt ys)]]) ([]) = (Tr.chk (isRows xs) (Tr.chk (isL ys) (Tr.leaf (R.out [V.c (C.bool (checkT (Nd.node s (toRows xs) (decL ys)) != 0))] [])))) := by kernel_rfl
def s136 : CSpec := fun a h => match a, h with
  | [.agg [.c (.str s), .c (.sl 5 rn rt xs), .c (.sl 3 kn kt ys)]], [] => some ([isRows xs, isL ys], [V.b (!okR (.node s (toRows xs) (decL ys)))], [])
  | _, _ => none
noncomputable abbrev p142 : Par := par E sh (ctOf [(136, s136)]) 142 2 0
abbrev s142_0 (nl : OBo) (tt : Bool) (ys : LLC) (i7 : Int) (i8 : Int) : Fr × Hp := ([(0, V.c (C.sl 3 nl tt ys)), (1, V.fn 136 []), (7, V.c (C.int IntKind.i64 i7)), (8, V.c (C.int IntKind.i64 i8))], [])
noncomputable abbrev b142_0 : Code := loopAt (codeOf E (142)) 0
abbrev x142_0x0 (i8 : Int) : Ex × Fr × Hp := (Ex.ret, [(4, V.c (C.int IntKind.i64 i8))], [])
abbrev x142_0x1 (nl : OBo) (tt : Bool) (ys : LLC) (i7 : Int) (i8 : Int) : Ex × Fr × Hp := (Ex.exit 0, [(0, V.c (C.sl 3 nl tt ys)), (1, V.fn 136 []), (7, V.c (C.int IntKind.i64 i7)), (8, V.c (C.int IntKind.i64 i8)), (9, V.c (C.bool false))], [])
theorem t142_0 (nl : OBo) (tt : Bool) (ys : LLC) (i7 : Int) (i8 : Int) : p142.lts b142_0 (s142_0 nl tt ys i7 i8) = (Tr.br (decide (i8 < i7)) (Tr.chk (decide (0 ≤ i8)) (Tr.chk true (Tr.chk (decide (i8.toNat < ys.length)) (Tr.chk (shOk [Sk.str, Sk.sl 5, Sk.sl 3] (ys.getD i8.toNat [])) (Tr.chk (isRows ((ys.getD i8.toNat []).tail.headD C.pnil).xs) (Tr.chk (isL ((ys.getD i8.toNat []).tail.tail.headD C.pnil).xs) (Tr.br (!okR (Nd.node ((ys.getD i8.toNat []).headD C.pnil).st (toRows ((ys.getD i8.toNat []).tail.headD C.pnil).xs) (decL ((ys.getD i8.toNat []).tail.tail.headD C.pnil).xs))) (Tr.leaf (R.x (x142_0x0 i8))) (Tr.leaf (R.s (s142_0 nl tt ys i7 (IntKind.i64.wrap (i8 + 1)))))))))))) (Tr.leaf (R.x (x142_0x1 nl tt ys i7 i8)))) := by kernel_rfl
theorem k142_0x0 (i8 : Int) : p142.fkx 0 (x142_0x0 i8) = (Tr.leaf (R.out [V.c (C.int IntKind.i64 i8)] [])) := by kernel_rfl
theorem k142_0x1 (nl : OBo) (tt : Bool) (ys : LLC) (i7 : Int) (i8 : Int) : p142.fkx 0 (x142_0x1 nl tt ys i7 i8) = (Tr.leaf (R.out [V.c (C.int IntKind.i64 (-1))] [])) := by kernel_rfl
theorem t142 (nl : OBo) (tt : Bool) (ys : LLC) : p142.ft ([V.c (C.sl 3 nl tt ys), V.fn 136 []]) ([]) = (Tr.ls 0 (s142_0 nl tt ys ((↑ys.length : Int)) (0))) := by kernel_rfl
def idxT (f : Nd → Bool) : List Nd → Nat → Int
  | [], _ => -1
  | t :: r, k => if f t = true then k else idxT f r (k + 1)
def s142 : CSpec := fun a h => match a, h with
  | [.c (.sl 3 nl tt ys), .fn 136 []], [] => some ([isL ys, decide (ys.length ≤ 9223372036854775807)], [V.i (idxT (fun t => !okR t) (decL ys) 0)], [])
  | _, _ => none
noncomputable abbrev p104 : Par := par E sh (ctOf [(142, s142)]) 104 2 0
theorem t104 (nl : OBo) (tt : Bool) (ys : LLC) : p104.ft ([V.c (C.sl 3 nl tt ys), V.fn 136 []]) ([]) = (Tr.chk (isL ys) (Tr.chk (decide (ys.length ≤ 9223372036854775807)) (Tr.leaf (R.out [V.c (C.bool (decide (0 ≤ idxT (fun (t : Nd) => !okR t) (decL ys) 0)))] [])))) := by kernel_rfl
def s104 : CSpec := fun a h => match a, h with
  | [.c (.sl 3 nl tt ys), .fn 136 []], [] => some ([isL ys, decide (ys.length ≤ 9223372036854775807)], [V.b (!(decL ys).all okR)], [])
  | _, _ => none
noncomputable abbrev p93 : Par := par E sh (ctOf [(104, s104)]) 93 1 0
theorem t93 (nl : OBo) (tt : Bool) (ys : LLC) : p93.ft ([V.c (C.sl 3 nl tt ys)]) ([]) = (Tr.chk (isL ys) (Tr.chk (decide (ys.length ≤ 9223372036854775807)) (Tr.leaf (R.out [V.c (C.bool !!(decL ys).all okR)] [])))) := by kernel_rfl
noncomputable abbrev p94 : Par := par E sh (ctOf []) 94 1 0
theorem t94 (nl : OBo) (tt : Bool) (ys : LLC) : p94.ft ([V.c (C.sl 3 nl tt ys)]) ([]) = (Tr.leaf (R.out [V.fn 137 [V.ptr 0 0 0 0]] [O.box [V.c (C.sl 3 nl tt ys)]])) := by kernel_rfl
end Go.Proofs.YtgaabjmbnomimaaDoor
namespace Go.Proofs.YtgaabjmbnomimaaDoor
open Go Go.Ev
-- cse
noncomputable abbrev p137 : Par := par E sh (ctOf [(34, s34)]) 137 2 2
noncomputable abbrev bU137 : Code := loopAt (codeOf E (137)) 1
noncomputable abbrev bA137 : Code := loopAt (loopAt (codeOf E (137)) 1) 0
noncomputable abbrev bB137 : Code := loopAt (loopAt (codeOf E (137)) 1) 1
abbrev u137 (kn : OBo) (kt : Bool) (xsh : LLC) (r : List (List V)) (q : Bool) (n0 : OBo) (t0 : Bool) (x0 : LLC) (n1 : OBo) (t1 : Bool) (x1 : LLC) (n2 : OBo) (t2 : Bool) (x2 : LLC) : Fr × Hp := ([(0, V.yl 1), (3, V.ptr 2 0 0 0)], [O.box [V.c (C.sl 3 kn kt xsh)], O.yo r q, O.mem 1 0 [[C.sl 2 n0 t0 x0], [C.sl 2 n1 t1 x1], [C.sl 2 n2 t2 x2]]])
abbrev sA137 (kn : OBo) (kt : Bool) (xsh : LLC) (r : List (List V)) (q : Bool) (n0 : OBo) (t0 : Bool) (x0 : LLC) (n1 : OBo) (t1 : Bool) (x1 : LLC) (n2 : OBo) (t2 : Bool) (x2 : LLC) (p : Bys) (i : Int) : Fr × Hp := ([(0, V.yl 1), (3, V.ptr 2 0 0 0), (6, V.ptr 3 0 0 0), (24, V.agg [V.c (C.sl 2 n0 t0 x0), V.c (C.sl 2 n1 t1 x1), V.c (C.sl 2 n2 t2 x2)]), (25, V.i i)], [O.box [V.c (C.sl 3 kn kt xsh)], O.yo r q, O.mem 1 0 [[C.sl 2 n0 t0 x0], [C.sl 2 n1 t1 x1], [C.sl 2 n2 t2 x2]], O.box [V.c (C.str p), V.c (C.sl 5 (some true) true []), V.c (C.sl 5 (some true) true []), V.c (C.sl 5 (some true) true [])]])
abbrev xA137 (kn : OBo) (kt : Bool) (xsh : LLC) (r : List (List V)) (q : Bool) (n0 : OBo) (t0 : Bool) (x0 : LLC) (n1 : OBo) (t1 : Bool) (x1 : LLC) (n2 : OBo) (t2 : Bool) (x2 : LLC) (p : Bys) : Ex × Fr × Hp := (Ex.exit 4, [(0, V.yl 1), (3, V.ptr 2 0 0 0), (6, V.ptr 3 0 0 0), (24, V.agg [V.c (C.sl 2 n0 t0 x0), V.c (C.sl 2 n1 t1 x1), V.c (C.sl 2 n2 t2 x2)]), (25, V.i 3), (26, V.b false)], [O.box [V.c (C.sl 3 kn kt xsh)], O.yo r q, O.mem 1 0 [[C.sl 2 n0 t0 x0], [C.sl 2 n1 t1 x1], [C.sl 2 n2 t2 x2]], O.box [V.c (C.str p), V.c (C.sl 5 (some true) true []), V.c (C.sl 5 (some true) true []), V.c (C.sl 5 (some true) true [])]])
abbrev sB137 (kn : OBo) (kt : Bool) (xsh : LLC) (r : List (List V)) (q : Bool) (n0 : OBo) (t0 : Bool) (x0 : LLC) (n1 : OBo) (t1 : Bool) (x1 : LLC) (n2 : OBo) (t2 : Bool) (x2 : LLC) (a0 : OBo) (b0 : Bool) (y0 : LLC) (a1 : OBo) (b1 : Bool) (y1 : LLC) (a2 : OBo) (b2 : Bool) (y2 : LLC) (p : Bys) (c0 : OBo) (d0 : Bool) (z0 : LLC) (c1 : OBo) (d1 : Bool) (z1 : LLC) (c2 : OBo) (d2 : Bool) (z2 : LLC) (i : Int) : Fr × Hp := ([(0, V.yl 1), (3, V.ptr 2 0 0 0), (6, V.ptr 3 0 0 0), (54, V.agg [V.c (C.sl 2 n0 t0 x0), V.c (C.sl 2 n1 t1 x1), V.c (C.sl 2 n2 t2 x2)]), (55, V.i i)], [O.box [V.c (C.sl 3 kn kt xsh)], O.yo r q, O.mem 1 0 [[C.sl 2 a0 b0 y0], [C.sl 2 a1 b1 y1], [C.sl 2 a2 b2 y2]], O.box [V.c (C.str p), V.c (C.sl 5 c0 d0 z0), V.c (C.sl 5 c1 d1 z1), V.c (C.sl 5 c2 d2 z2)]])
abbrev xB137 (kn : OBo) (kt : Bool) (xsh : LLC) (r : List (List V)) (q : Bool) (n0 : OBo) (t0 : Bool) (x0 : LLC) (n1 : OBo) (t1 : Bool) (x1 : LLC) (n2 : OBo) (t2 : Bool) (x2 : LLC) (a0 : OBo) (b0 : Bool) (y0 : LLC) (a1 : OBo) (b1 : Bool) (y1 : LLC) (a2 : OBo) (b2 : Bool) (y2 : LLC) (p : Bys) (c0 : OBo) (d0 : Bool) (z0 : LLC) (c1 : OBo) (d1 : Bool) (z1 : LLC) (c2 : OBo) (d2 : Bool) (z2 : LLC) : Ex × Fr × Hp := (Ex.exit 6, [(0, V.yl 1), (3, V.ptr 2 0 0 0), (6, V.ptr 3 0 0 0), (54, V.agg [V.c (C.sl 2 n0 t0 x0), V.c (C.sl 2 n1 t1 x1), V.c (C.sl 2 n2 t2 x2)]), (55, V.i 3), (56, V.b false)], [O.box [V.c (C.sl 3 kn kt xsh)], O.yo r q, O.mem 1 0 [[C.sl 2 a0 b0 y0], [C.sl 2 a1 b1 y1], [C.sl 2 a2 b2 y2]], O.box [V.c (C.str p), V.c (C.sl 5 c0 d0 z0), V.c (C.sl 5 c1 d1 z1), V.c (C.sl 5 c2 d2 z2)]])
abbrev xE137 (kn : OBo) (kt : Bool) (xsh : LLC) (r : List (List V)) (q : Bool) (n0 : OBo) (t0 : Bool) (x0 : LLC) (n1 : OBo) (t1 : Bool) (x1 : LLC) (n2 : OBo) (t2 : Bool) (x2 : LLC) (p : Bys) : Ex × Fr × Hp := (Ex.ret, [(0, V.yl 1), (3, V.ptr 2 0 0 0), (6, V.ptr 3 0 0 0), (53, V.b true)], [O.box [V.c (C.sl 3 kn kt xsh)], O.yo r q, O.mem 1 0 [[C.sl 2 n0 t0 x0], [C.sl 2 n1 t1 x1], [C.sl 2 n2 t2 x2]], O.box [V.c (C.str p), V.c (C.sl 5 (some true) true []), V.c (C.sl 5 (some true) true []), V.c (C.sl 5 (some true) true [])]])
abbrev s137_0 (kn : OBo) (kt : Bool) (r : List (List V)) (q : Bool) (xs11 : LLC) (i12 : Int) (i13 : Int) (xsh0 : LLC) (ys2 : LLC) : Fr × Hp := ([(0, V.yl 1), (3, V.ptr 2 0 0 0), (11, V.c (C.sl 3 kn kt xs11)), (12, V.c (C.int IntKind.i64 i12)), (13, V.c (C.int IntKind.i64 i13))], [O.box [V.c (C.sl 3 kn kt xsh0)], O.yo r q, O.mem 1 0 ys2])
noncomputable abbrev b137_0 : Code := loopAt (codeOf E (137)) 0
abbrev x137_0x0 (kn : OBo) (kt : Bool) (r : List (List V)) (q : Bool) (xs11 : LLC) (i12 : Int) (i13 : Int) (xsh0 : LLC) (ys2 : LLC) : Ex × Fr × Hp := (Ex.exit 0, [(0, V.yl 1), (3, V.ptr 2 0 0 0), (11, V.c (C.sl 3 kn kt xs11)), (12, V.c (C.int IntKind.i64 i12)), (13, V.c (C.int IntKind.i64 i13)), (14, V.c (C.bool false))], [O.box [V.c (C.sl 3 kn kt xsh0)], O.yo r q, O.mem 1 0 ys2])
abbrev s137_1 (kn : OBo) (kt : Bool) (r : List (List V)) (q : Bool) (xsh0 : LLC) (ys2 : LLC) : Fr × Hp := ([(0, V.yl 1), (3, V.ptr 2 0 0 0)], [O.box [V.c (C.sl 3 kn kt xsh0)], O.yo r q, O.mem 1 0 ys2])
theorem t137_0 (kn : OBo) (kt : Bool) (r : List (List V)) (q : Bool) (xs11 : LLC) (i12 : Int) (i13 : Int) (xsh0 : LLC) (ys2 : LLC) : p137.lts b137_0 (s137_0 kn kt r q xs11 i12 i13 xsh0 ys2) = (Tr.br (decide (i13 < i12)) (Tr.chk (decide (0 ≤ i13)) (Tr.chk true (Tr.chk (decide (i13.toNat < xs11.length)) (Tr.chk (shOk [Sk.str, Sk.sl 5, Sk.sl 3] (xs11.getD i13.toNat [])) (Tr.chk (isRows ((xs11.getD i13.toNat []).tail.headD C.pnil).xs) (Tr.chk (isL ((xs11.getD i13.toNat []).tail.tail.headD C.pnil).xs) (Tr.chk (decide ((entL (decL ((xs11.getD i13.toNat []).tail.tail.headD C.pnil).xs)).length < 1000000000)) (Tr.chk (decide (0 ≤ i13)) (Tr.chk (decide (i13 < (↑3 : Int))) (Tr.chk true (Tr.chk true (Tr.chk true (Tr.chk true (Tr.chk (decide (i13.toNat < ys2.length)) (Tr.chk true (Tr.chk (decide ((ys2.getD i13.toNat []).length = 1)) (Tr.leaf (R.s (s137_0 kn kt r q xs11 i12 (IntKind.i64.wrap (i13 + 1)) xsh0 (ys2.set i13.toNat [C.sl 2 none false (ents (entP (Nd.node ((xs11.getD i13.toNat []).headD C.pnil).st (toRows ((xs11.getD i13.toNat []).tail.headD C.pnil).xs) (decL ((xs11.getD i13.toNat []).tail.tail.headD C.pnil).xs))))])))))))))))))))))))) (Tr.leaf (R.x (x137_0x0 kn kt r q xs11 i12 i13 xsh0 ys2)))) := by kernel_rfl
theorem k137_0x0 (kn : OBo) (kt : Bool) (r : List (List V)) (q : Bool) (xs11 : LLC) (i12 : Int) (i13 : Int) (xsh0 : LLC) (ys2 : LLC) : p137.fkx 0 (x137_0x0 kn kt r q xs11 i12 i13 xsh0 ys2) = (Tr.ls 1 (s137_1 kn kt r q xsh0 ys2)) := by kernel_rfl
theorem t137 (kn : OBo) (kt : Bool) (a : List C) (b : List C) (c : List C) (r : List (List V)) (q : Bool) : p137.ft ([V.yl 1, V.ptr 0 0 0 0]) ([O.box [V.c (C.sl 3 kn kt [a, b, c])], O.yo r q]) = (Tr.ls 0 (s137_0 kn kt r q ([a, b, c]) (3) (0) ([a, b, c]) ([[C.sl 2 (some true) true []], [C.sl 2 (some true) true []], [C.sl 2 (some true) true []]]))) := by kernel_rfl
theorem t137u (kn : OBo) (kt : Bool) (xsh : LLC) (r : List (List V)) (q : Bool) (n0 : OBo) (t0 : Bool) (x0 : LLC) (n1 : OBo) (t1 : Bool) (x1 : LLC) (n2 : OBo) (t2 : Bool) (x2 : LLC) : p137.lts bU137 (u137 kn kt xsh r q n0 t0 x0 n1 t1 x1 n2 t2 x2) = Tr.ls 0 (sA137 kn kt xsh r q n0 t0 x0 n1 t1 x1 n2 t2 x2 [] 0) := by kernel_rfl
abbrev x137A0x0 (kn : OBo) (kt : Bool) (xsh : LLC) (r : List (List V)) (q : Bool) (n0 : OBo) (t0 : Bool) (x0 : LLC) (n1 : OBo) (t1 : Bool) (x1 : LLC) (n2 : OBo) (t2 : Bool) (x2 : LLC) (p : Bys) (ys2 : LLC) : Ex × Fr × Hp := (Ex.exit 4, [(0, V.yl 1), (3, V.ptr 2 0 0 0), (6, V.ptr 3 0 0 0), (24, V.agg [V.c (C.sl 2 n0 t0 x0), V.c (C.sl 2 n1 t1 x1), V.c (C.sl 2 n2 t2 x2)]), (25, V.c (C.int IntKind.i64 0)), (26, V.c (C.bool false))], [O.box [V.c (C.sl 3 kn kt xsh)], O.yo r q, O.mem 1 0 ys2, O.box [V.c (C.str p), V.c (C.sl 5 (some true) true []), V.c (C.sl 5 (some true) true []), V.c (C.sl 5 (some true) true [])]])
theorem t137A0 (kn : OBo) (kt : Bool) (xsh : LLC) (r : List (List V)) (q : Bool) (n0 : OBo) (t0 : Bool) (x0 : LLC) (n1 : OBo) (t1 : Bool) (x1 : LLC) (n2 : OBo) (t2 : Bool) (x2 : LLC) (p : Bys) : p137.lts bA137 (sA137 kn kt xsh r q n0 t0 x0 n1 t1 x1 n2 t2 x2 p 0) = (Tr.br true (Tr.br (decide (0 < (↑x0.length : Int))) (Tr.br (p == []) (Tr.chk true (Tr.chk true (Tr.chk (decide (Int.toNat 0 < x0.length)) (Tr.chk (shOk [Sk.str, Sk.sl 5] (x0.getD (Int.toNat 0) [])) (Tr.leaf (R.st Ex.nrm [(0, V.yl 1), (3, V.ptr 2 0 0 0), (6, V.ptr 3 0 0 0), (24, V.agg [V.c (C.sl 2 n0 t0 x0), V.c (C.sl 2 n1 t1 x1), V.c (C.sl 2 n2 t2 x2)]), (25, V.c (C.int IntKind.i64 1))] [O.box [V.c (C.sl 3 kn kt xsh)], O.yo r q, O.mem 1 0 [[C.sl 2 n0 t0 x0], [C.sl 2 n1 t1 x1], [C.sl 2 n2 t2 x2]], O.box [V.c (C.str ((x0.getD (Int.toNat 0) []).headD C.pnil).st), V.c (C.sl 5 (some true) true []), V.c (C.sl 5 (some true) true []), V.c (C.sl 5 (some true) true [])]])))))) (Tr.chk true (Tr.chk true (Tr.chk (decide (Int.toNat 0 < x0.length)) (Tr.chk (shOk [Sk.str, Sk.sl 5] (x0.getD (Int.toNat 0) [])) (Tr.br (Op.bytesLess ((x0.getD (Int.toNat 0) []).headD C.pnil).st p) (Tr.chk true (Tr.chk true (Tr.chk (decide (Int.toNat 0 < x0.length)) (Tr.chk (shOk [Sk.str, Sk.sl 5] (x0.getD (Int.toNat 0) [])) (Tr.leaf (R.st Ex.nrm [(0, V.yl 1), (3, V.ptr 2 0 0 0), (6, V.ptr 3 0 0 0), (24, V.agg [V.c (C.sl 2 n0 t0 x0), V.c (C.sl 2 n1 t1 x1), V.c (C.sl 2 n2 t2 x2)]), (25, V.c (C.int IntKind.i64 1))] [O.box [V.c (C.sl 3 kn kt xsh)], O.yo r q, O.mem 1 0 [[C.sl 2 n0 t0 x0], [C.sl 2 n1 t1 x1], [C.sl 2 n2 t2 x2]], O.box [V.c (C.str ((x0.getD (Int.toNat 0) []).headD C.pnil).st), V.c (C.sl 5 (some true) true []), V.c (C.sl 5 (some true) true []), V.c (C.sl 5 (some true) true [])]])))))) (Tr.leaf (R.st Ex.nrm [(0, V.yl 1), (3, V.ptr 2 0 0 0), (6, V.ptr 3 0 0 0), (24, V.agg [V.c (C.sl 2 n0 t0 x0), V.c (C.sl 2 n1 t1 x1), V.c (C.sl 2 n2 t2 x2)]), (25, V.c (C.int IntKind.i64 1))] [O.box [V.c (C.sl 3 kn kt xsh)], O.yo r q, O.mem 1 0 [[C.sl 2 n0 t0 x0], [C.sl 2 n1 t1 x1], [C.sl 2 n2 t2 x2]], O.box [V.c (C.str p), V.c (C.sl 5 (some true) true []), V.c (C.sl 5 (some true) true []), V.c (C.sl 5 (some true) true [])]])))))))) (Tr.leaf (R.st Ex.nrm [(0, V.yl 1), (3, V.ptr 2 0 0 0), (6, V.ptr 3 0 0 0), (24, V.agg [V.c (C.sl 2 n0 t0 x0), V.c (C.sl 2 n1 t1 x1), V.c (C.sl 2 n2 t2 x2)]), (25, V.c (C.int IntKind.i64 1))] [O.box [V.c (C.sl 3 kn kt xsh)], O.yo r q, O.mem 1 0 [[C.sl 2 n0 t0 x0], [C.sl 2 n1 t1 x1], [C.sl 2 n2 t2 x2]], O.box [V.c (C.str p), V.c (C.sl 5 (some true) true []), V.c (C.sl 5 (some true) true []), V.c (C.sl 5 (some true) true [])]]))) (Tr.leaf (R.x (x137A0x0 kn kt xsh r q n0 t0 x0 n1 t1 x1 n2 t2 x2 p ([[C.sl 2 n0 t0 x0], [C.sl 2 n1 t1 x1], [C.sl 2 n2 t2 x2]]))))) := by kernel_rfl
abbrev x137A1x0 (kn : OBo) (kt : Bool) (xsh : LLC) (r : List (List V)) (q : Bool) (n0 : OBo) (t0 : Bool) (x0 : LLC) (n1 : OBo) (t1 : Bool) (x1 : LLC) (n2 : OBo) (t2 : Bool) (x2 : LLC) (p : Bys) (ys2 : LLC) : Ex × Fr × Hp := (Ex.exit 4, [(0, V.yl 1), (3, V.ptr 2 0 0 0), (6, V.ptr 3 0 0 0), (24, V.agg [V.c (C.sl 2 n0 t0 x0), V.c (C.sl 2 n1 t1 x1), V.c (C.sl 2 n2 t2 x2)]), (25, V.c (C.int IntKind.i64 1)), (26, V.c (C.bool false))], [O.box [V.c (C.sl 3 kn kt xsh)], O.yo r q, O.mem 1 0 ys2, O.box [V.c (C.str p), V.c (C.sl 5 (some true) true []), V.c (C.sl 5 (some true) true []), V.c (C.sl 5 (some true) true [])]])
theorem t137A1 (kn : OBo) (kt : Bool) (xsh : LLC) (r : List (List V)) (q : Bool) (n0 : OBo) (t0 : Bool) (x0 : LLC) (n1 : OBo) (t1 : Bool) (x1 : LLC) (n2 : OBo) (t2 : Bool) (x2 : LLC) (p : Bys) : p137.lts bA137 (sA137 kn kt xsh r q n0 t0 x0 n1 t1 x1 n2 t2 x2 p 1) = (Tr.br true (Tr.br (decide (0 < (↑x1.length : Int))) (Tr.br (p == []) (Tr.chk true (Tr.chk true (Tr.chk (decide (Int.toNat 0 < x1.length)) (Tr.chk (shOk [Sk.str, Sk.sl 5] (x1.getD (Int.toNat 0) [])) (Tr.leaf (R.st Ex.nrm [(0, V.yl 1), (3, V.ptr 2 0 0 0), (6, V.ptr 3 0 0 0), (24, V.agg [V.c (C.sl 2 n0 t0 x0), V.c (C.sl 2 n1 t1 x1), V.c (C.sl 2 n2 t2 x2)]), (25, V.c (C.int IntKind.i64 2))] [O.box [V.c (C.sl 3 kn kt xsh)], O.yo r q, O.mem 1 0 [[C.sl 2 n0 t0 x0], [C.sl 2 n1 t1 x1], [C.sl 2 n2 t2 x2]], O.box [V.c (C.str ((x1.getD (Int.toNat 0) []).headD C.pnil).st), V.c (C.sl 5 (some true) true []), V.c (C.sl 5 (some true) true []), V.c (C.sl 5 (some true) true [])]])))))) (Tr.chk true (Tr.chk true (Tr.chk (decide (Int.toNat 0 < x1.length)) (Tr.chk (shOk [Sk.str, Sk.sl 5] (x1.getD (Int.toNat 0) [])) (Tr.br (Op.bytesLess ((x1.getD (Int.toNat 0) []).headD C.pnil).st p) (Tr.chk true (Tr.chk true (Tr.chk (decide (Int.toNat 0 < x1.length)) (Tr.chk (shOk [Sk.str, Sk.sl 5] (x1.getD (Int.toNat 0) [])) (Tr.leaf (R.st Ex.nrm [(0, V.yl 1), (3, V.ptr 2 0 0 0), (6, V.ptr 3 0 0 0), (24, V.agg [V.c (C.sl 2 n0 t0 x0), V.c (C.sl 2 n1 t1 x1), V.c (C.sl 2 n2 t2 x2)]), (25, V.c (C.int IntKind.i64 2))] [O.box [V.c (C.sl 3 kn kt xsh)], O.yo r q, O.mem 1 0 [[C.sl 2 n0 t0 x0], [C.sl 2 n1 t1 x1], [C.sl 2 n2 t2 x2]], O.box [V.c (C.str ((x1.getD (Int.toNat 0) []).headD C.pnil).st), V.c (C.sl 5 (some true) true []), V.c (C.sl 5 (some true) true []), V.c (C.sl 5 (some true) true [])]])))))) (Tr.leaf (R.st Ex.nrm [(0, V.yl 1), (3, V.ptr 2 0 0 0), (6, V.ptr 3 0 0 0), (24, V.agg [V.c (C.sl 2 n0 t0 x0), V.c (C.sl 2 n1 t1 x1), V.c (C.sl 2 n2 t2 x2)]), (25, V.c (C.int IntKind.i64 2))] [O.box [V.c (C.sl 3 kn kt xsh)], O.yo r q, O.mem 1 0 [[C.sl 2 n0 t0 x0], [C.sl 2 n1 t1 x1], [C.sl 2 n2 t2 x2]], O.box [V.c (C.str p), V.c (C.sl 5 (some true) true []), V.c (C.sl 5 (some true) true []), V.c (C.sl 5 (some true) true [])]])))))))) (Tr.leaf (R.st Ex.nrm [(0, V.yl 1), (3, V.ptr 2 0 0 0), (6, V.ptr 3 0 0 0), (24, V.agg [V.c (C.sl 2 n0 t0 x0), V.c (C.sl 2 n1 t1 x1), V.c (C.sl 2 n2 t2 x2)]), (25, V.c (C.int IntKind.i64 2))] [O.box [V.c (C.sl 3 kn kt xsh)], O.yo r q, O.mem 1 0 [[C.sl 2 n0 t0 x0], [C.sl 2 n1 t1 x1], [C.sl 2 n2 t2 x2]], O.box [V.c (C.str p), V.c (C.sl 5 (some true) true []), V.c (C.sl 5 (some true) true []), V.c (C.sl 5 (some true) true [])]]))) (Tr.leaf (R.x (x137A1x0 kn kt xsh r q n0 t0 x0 n1 t1 x1 n2 t2 x2 p ([[C.sl 2 n0 t0 x0], [C.sl 2 n1 t1 x1], [C.sl 2 n2 t2 x2]]))))) := by kernel_rfl
abbrev x137A2x0 (kn : OBo) (kt : Bool) (xsh : LLC) (r : List (List V)) (q : Bool) (n0 : OBo) (t0 : Bool) (x0 : LLC) (n1 : OBo) (t1 : Bool) (x1 : LLC) (n2 : OBo) (t2 : Bool) (x2 : LLC) (p : Bys) (ys2 : LLC) : Ex × Fr × Hp := (Ex.exit 4, [(0, V.yl 1), (3, V.ptr 2 0 0 0), (6, V.ptr 3 0 0 0), (24, V.agg [V.c (C.sl 2 n0 t0 x0), V.c (C.sl 2 n1 t1 x1), V.c (C.sl 2 n2 t2 x2)]), (25, V.c (C.int IntKind.i64 2)), (26, V.c (C.bool false))], [O.box [V.c (C.sl 3 kn kt xsh)], O.yo r q, O.mem 1 0 ys2, O.box [V.c (C.str p), V.c (C.sl 5 (some true) true []), V.c (C.sl 5 (some true) true []), V.c (C.sl 5 (some true) true [])]])
theorem t137A2 (kn : OBo) (kt : Bool) (xsh : LLC) (r : List (List V)) (q : Bool) (n0 : OBo) (t0 : Bool) (x0 : LLC) (n1 : OBo) (t1 : Bool) (x1 : LLC) (n2 : OBo) (t2 : Bool) (x2 : LLC) (p : Bys) : p137.lts bA137 (sA137 kn kt xsh r q n0 t0 x0 n1 t1 x1 n2 t2 x2 p 2) = (Tr.br true (Tr.br (decide (0 < (↑x2.length : Int))) (Tr.br (p == []) (Tr.chk true (Tr.chk true (Tr.chk (decide (Int.toNat 0 < x2.length)) (Tr.chk (shOk [Sk.str, Sk.sl 5] (x2.getD (Int.toNat 0) [])) (Tr.leaf (R.st Ex.nrm [(0, V.yl 1), (3, V.ptr 2 0 0 0), (6, V.ptr 3 0 0 0), (24, V.agg [V.c (C.sl 2 n0 t0 x0), V.c (C.sl 2 n1 t1 x1), V.c (C.sl 2 n2 t2 x2)]), (25, V.c (C.int IntKind.i64 3))] [O.box [V.c (C.sl 3 kn kt xsh)], O.yo r q, O.mem 1 0 [[C.sl 2 n0 t0 x0], [C.sl 2 n1 t1 x1], [C.sl 2 n2 t2 x2]], O.box [V.c (C.str ((x2.getD (Int.toNat 0) []).headD C.pnil).st), V.c (C.sl 5 (some true) true []), V.c (C.sl 5 (some true) true []), V.c (C.sl 5 (some true) true [])]])))))) (Tr.chk true (Tr.chk true (Tr.chk (decide (Int.toNat 0 < x2.length)) (Tr.chk (shOk [Sk.str, Sk.sl 5] (x2.getD (Int.toNat 0) [])) (Tr.br (Op.bytesLess ((x2.getD (Int.toNat 0) []).headD C.pnil).st p) (Tr.chk true (Tr.chk true (Tr.chk (decide (Int.toNat 0 < x2.length)) (Tr.chk (shOk [Sk.str, Sk.sl 5] (x2.getD (Int.toNat 0) [])) (Tr.leaf (R.st Ex.nrm [(0, V.yl 1), (3, V.ptr 2 0 0 0), (6, V.ptr 3 0 0 0), (24, V.agg [V.c (C.sl 2 n0 t0 x0), V.c (C.sl 2 n1 t1 x1), V.c (C.sl 2 n2 t2 x2)]), (25, V.c (C.int IntKind.i64 3))] [O.box [V.c (C.sl 3 kn kt xsh)], O.yo r q, O.mem 1 0 [[C.sl 2 n0 t0 x0], [C.sl 2 n1 t1 x1], [C.sl 2 n2 t2 x2]], O.box [V.c (C.str ((x2.getD (Int.toNat 0) []).headD C.pnil).st), V.c (C.sl 5 (some true) true []), V.c (C.sl 5 (some true) true []), V.c (C.sl 5 (some true) true [])]])))))) (Tr.leaf (R.st Ex.nrm [(0, V.yl 1), (3, V.ptr 2 0 0 0), (6, V.ptr 3 0 0 0), (24, V.agg [V.c (C.sl 2 n0 t0 x0), V.c (C.sl 2 n1 t1 x1), V.c (C.sl 2 n2 t2 x2)]), (25, V.c (C.int IntKind.i64 3))] [O.box [V.c (C.sl 3 kn kt xsh)], O.yo r q, O.mem 1 0 [[C.sl 2 n0 t0 x0], [C.sl 2 n1 t1 x1], [C.sl 2 n2 t2 x2]], O.box [V.c (C.str p), V.c (C.sl 5 (some true) true []), V.c (C.sl 5 (some true) true []), V.c (C.sl 5 (some true) true [])]])))))))) (Tr.leaf (R.st Ex.nrm [(0, V.yl 1), (3, V.ptr 2 0 0 0), (6, V.ptr 3 0 0 0), (24, V.agg [V.c (C.sl 2 n0 t0 x0), V.c (C.sl 2 n1 t1 x1), V.c (C.sl 2 n2 t2 x2)]), (25, V.c (C.int IntKind.i64 3))] [O.box [V.c (C.sl 3 kn kt xsh)], O.yo r q, O.mem 1 0 [[C.sl 2 n0 t0 x0], [C.sl 2 n1 t1 x1], [C.sl 2 n2 t2 x2]], O.box [V.c (C.str p), V.c (C.sl 5 (some true) true []), V.c (C.sl 5 (some true) true []), V.c (C.sl 5 (some true) true [])]]))) (Tr.leaf (R.x (x137A2x0 kn kt xsh r q n0 t0 x0 n1 t1 x1 n2 t2 x2 p ([[C.sl 2 n0 t0 x0], [C.sl 2 n1 t1 x1], [C.sl 2 n2 t2 x2]]))))) := by kernel_rfl
abbrev x137A3x0 (kn : OBo) (kt : Bool) (xsh : LLC) (r : List (List V)) (q : Bool) (n0 : OBo) (t0 : Bool) (x0 : LLC) (n1 : OBo) (t1 : Bool) (x1 : LLC) (n2 : OBo) (t2 : Bool) (x2 : LLC) (p : Bys) (ys2 : LLC) : Ex × Fr × Hp := (Ex.exit 4, [(0, V.yl 1), (3, V.ptr 2 0 0 0), (6, V.ptr 3 0 0 0), (24, V.agg [V.c (C.sl 2 n0 t0 x0), V.c (C.sl 2 n1 t1 x1), V.c (C.sl 2 n2 t2 x2)]), (25, V.c (C.int IntKind.i64 3)), (26, V.c (C.bool false))], [O.box [V.c (C.sl 3 kn kt xsh)], O.yo r q, O.mem 1 0 ys2, O.box [V.c (C.str p), V.c (C.sl 5 (some true) true []), V.c (C.sl 5 (some true) true []), V.c (C.sl 5 (some true) true [])]])
theorem t137A3 (kn : OBo) (kt : Bool) (xsh : LLC) (r : List (List V)) (q : Bool) (n0 : OBo) (t0 : Bool) (x0 : LLC) (n1 : OBo) (t1 : Bool) (x1 : LLC) (n2 : OBo) (t2 : Bool) (x2 : LLC) (p : Bys) : p137.lts bA137 (sA137 kn kt xsh r q n0 t0 x0 n1 t1 x1 n2 t2 x2 p 3) = (Tr.br false Tr.fail (Tr.leaf (R.x (x137A3x0 kn kt xsh r q n0 t0 x0 n1 t1 x1 n2 t2 x2 p ([[C.sl 2 n0 t0 x0], [C.sl 2 n1 t1 x1], [C.sl 2 n2 t2 x2]]))))) := by kernel_rfl
theorem t137v (kn : OBo) (kt : Bool) (xsh : LLC) (r : List (List V)) (q : Bool) (n0 : OBo) (t0 : Bool) (x0 : LLC) (n1 : OBo) (t1 : Bool) (x1 : LLC) (n2 : OBo) (t2 : Bool) (x2 : LLC) (p : Bys) : p137.lkx bU137 0 (xA137 kn kt xsh r q n0 t0 x0 n1 t1 x1 n2 t2 x2 p) = Tr.br (p == []) (Tr.leaf (R.x (xE137 kn kt xsh r q n0 t0 x0 n1 t1 x1 n2 t2 x2 p))) (Tr.ls 1 (sB137 kn kt xsh r q n0 t0 x0 n1 t1 x1 n2 t2 x2 n0 t0 x0 n1 t1 x1 n2 t2 x2 p (some true) true [] (some true) true [] (some true) true [] 0)) := by kernel_rfl
abbrev x137B0x0 (kn : OBo) (kt : Bool) (xsh : LLC) (r : List (List V)) (q : Bool) (n0 : OBo) (t0 : Bool) (x0 : LLC) (n1 : OBo) (t1 : Bool) (x1 : LLC) (n2 : OBo) (t2 : Bool) (x2 : LLC) (p : Bys) (c0 : OBo) (d0 : Bool) (z0 : LLC) (c1 : OBo) (d1 : Bool) (z1 : LLC) (c2 : OBo) (d2 : Bool) (z2 : LLC) (ys2 : LLC) : Ex × Fr × Hp := (Ex.exit 6, [(0, V.yl 1), (3, V.ptr 2 0 0 0), (6, V.ptr 3 0 0 0), (54, V.agg [V.c (C.sl 2 n0 t0 x0), V.c (C.sl 2 n1 t1 x1), V.c (C.sl 2 n2 t2 x2)]), (55, V.c (C.int IntKind.i64 0)), (56, V.c (C.bool false))], [O.box [V.c (C.sl 3 kn kt xsh)], O.yo r q, O.mem 1 0 ys2, O.box [V.c (C.str p), V.c (C.sl 5 c0 d0 z0), V.c (C.sl 5 c1 d1 z1), V.c (C.sl 5 c2 d2 z2)]])
theorem t137B0 (kn : OBo) (kt : Bool) (xsh : LLC) (r : List (List V)) (q : Bool) (n0 : OBo) (t0 : Bool) (x0 : LLC) (n1 : OBo) (t1 : Bool) (x1 : LLC) (n2 : OBo) (t2 : Bool) (x2 : LLC) (a0 : OBo) (b0 : Bool) (y0 : LLC) (a1 : OBo) (b1 : Bool) (y1 : LLC) (a2 : OBo) (b2 : Bool) (y2 : LLC) (p : Bys) (c0 : OBo) (d0 : Bool) (z0 : LLC) (c1 : OBo) (d1 : Bool) (z1 : LLC) (c2 : OBo) (d2 : Bool) (z2 : LLC) : p137.lts bB137 (sB137 kn kt xsh r q n0 t0 x0 n1 t1 x1 n2 t2 x2 a0 b0 y0 a1 b1 y1 a2 b2 y2 p c0 d0 z0 c1 d1 z1 c2 d2 z2 0) = (Tr.br true (Tr.br (decide (0 < (↑x0.length : Int))) (Tr.chk true (Tr.chk true (Tr.chk (decide (Int.toNat 0 < x0.length)) (Tr.chk (shOk [Sk.str, Sk.sl 5] (x0.getD (Int.toNat 0) [])) (Tr.br (((x0.getD (Int.toNat 0) []).headD C.pnil).st == p) (Tr.chk true (Tr.chk true (Tr.chk (decide (Int.toNat 0 < x0.length)) (Tr.chk (shOk [Sk.str, Sk.sl 5] (x0.getD (Int.toNat 0) [])) (Tr.chk true (Tr.chk (decide (Int.toNat 1 ≤ x0.length)) (Tr.chk (decide (x0.length ≤ x0.length)) (Tr.chk true (Tr.chk true (Tr.chk true (Tr.chk true (Tr.chk true (Tr.chk true (Tr.chk true (Tr.chk true (Tr.chk true (Tr.chk true (Tr.chk true (Tr.chk true (Tr.leaf (R.st Ex.nrm [(0, V.yl 1), (3, V.ptr 2 0 0 0), (6, V.ptr 3 0 0 0), (54, V.agg [V.c (C.sl 2 n0 t0 x0), V.c (C.sl 2 n1 t1 x1), V.c (C.sl 2 n2 t2 x2)]), (55, V.c (C.int IntKind.i64 1))] [O.box [V.c (C.sl 3 kn kt xsh)], O.yo r q, O.mem 1 0 [[C.sl 2 n0 (cutTight none (t0 && decide (x0.length = x0.length))) (List.drop (Int.toNat 1) (List.take x0.length x0))], [C.sl 2 a1 b1 y1], [C.sl 2 a2 b2 y2]], O.box [V.c (C.str p), V.c (C.sl 5 none false ((x0.getD (Int.toNat 0) []).tail.headD C.pnil).xs), V.c (C.sl 5 c1 d1 z1), V.c (C.sl 5 c2 d2 z2)]]))))))))))))))))))))) (Tr.leaf (R.st Ex.nrm [(0, V.yl 1), (3, V.ptr 2 0 0 0), (6, V.ptr 3 0 0 0), (54, V.agg [V.c (C.sl 2 n0 t0 x0), V.c (C.sl 2 n1 t1 x1), V.c (C.sl 2 n2 t2 x2)]), (55, V.c (C.int IntKind.i64 1))] [O.box [V.c (C.sl 3 kn kt xsh)], O.yo r q, O.mem 1 0 [[C.sl 2 a0 b0 y0], [C.sl 2 a1 b1 y1], [C.sl 2 a2 b2 y2]], O.box [V.c (C.str p), V.c (C.sl 5 c0 d0 z0), V.c (C.sl 5 c1 d1 z1), V.c (C.sl 5 c2 d2 z2)]]))))))) (Tr.leaf (R.st Ex.nrm [(0, V.yl 1), (3, V.ptr 2 0 0 0), (6, V.ptr 3 0 0 0), (54, V.agg [V.c (C.sl 2 n0 t0 x0), V.c (C.sl 2 n1 t1 x1), V.c (C.sl 2 n2 t2 x2)]), (55, V.c (C.int IntKind.i64 1))] [O.box [V.c (C.sl 3 kn kt xsh)], O.yo r q, O.mem 1 0 [[C.sl 2 a0 b0 y0], [C.sl 2 a1 b1 y1], [C.sl 2 a2 b2 y2]], O.box [V.c (C.str p), V.c (C.sl 5 c0 d0 z0), V.c (C.sl 5 c1 d1 z1), V.c (C.sl 5 c2 d2 z2)]]))) (Tr.leaf (R.x (x137B0x0 kn kt xsh r q n0 t0 x0 n1 t1 x1 n2 t2 x2 p c0 d0 z0 c1 d1 z1 c2 d2 z2 ([[C.sl 2 a0 b0 y0], [C.sl 2 a1 b1 y1], [C.sl 2 a2 b2 y2]]))))) := by kernel_rfl
abbrev x137B1x0 (kn : OBo) (kt : Bool) (xsh : LLC) (r : List (List V)) (q : Bool) (n0 : OBo) (t0 : Bool) (x0 : LLC) (n1 : OBo) (t1 : Bool) (x1 : LLC) (n2 : OBo) (t2 : Bool) (x2 : LLC) (p : Bys) (c0 : OBo) (d0 : Bool) (z0 : LLC) (c1 : OBo) (d1 : Bool) (z1 : LLC) (c2 : OBo) (d2 : Bool) (z2 : LLC) (ys2 : LLC) : Ex × Fr × Hp := (Ex.exit 6, [(0, V.yl 1), (3, V.ptr 2 0 0 0), (6, V.ptr 3 0 0 0), (54, V.agg [V.c (C.sl 2 n0 t0 x0), V.c (C.sl 2 n1 t1 x1), V.c (C.sl 2 n2 t2 x2)]), (55, V.c (C.int IntKind.i64 1)), (56, V.c (C.bool false))], [O.box [V.c (C.sl 3 kn kt xsh)], O.yo r q, O.mem 1 0 ys2, O.box [V.c (C.str p), V.c (C.sl 5 c0 d0 z0), V.c (C.sl 5 c1 d1 z1), V.c (C.sl 5 c2 d2 z2)]])
theorem t137B1 (kn : OBo) (kt : Bool) (xsh : LLC) (r : List (List V)) (q : Bool) (n0 : OBo) (t0 : Bool) (x0 : LLC) (n1 : OBo) (t1 : Bool) (x1 : LLC) (n2 : OBo) (t2 : Bool) (x2 : LLC) (a0 : OBo) (b0 : Bool) (y0 : LLC) (a1 : OBo) (b1 : Bool) (y1 : LLC) (a2 : OBo) (b2 : Bool) (y2 : LLC) (p : Bys) (c0 : OBo) (d0 : Bool) (z0 : LLC) (c1 : OBo) (d1 : Bool) (z1 : LLC) (c2 : OBo) (d2 : Bool) (z2 : LLC) : p137.lts bB137 (sB137 kn kt xsh r q n0 t0 x0 n1 t1 x1 n2 t2 x2 a0 b0 y0 a1 b1 y1 a2 b2 y2 p c0 d0 z0 c1 d1 z1 c2 d2 z2 1) = (Tr.br true (Tr.br (decide (0 < (↑x1.length : Int))) (Tr.chk true (Tr.chk true (Tr.chk (decide (Int.toNat 0 < x1.length)) (Tr.chk (shOk [Sk.str, Sk.sl 5] (x1.getD (Int.toNat 0) [])) (Tr.br (((x1.getD (Int.toNat 0) []).headD C.pnil).st == p) (Tr.chk true (Tr.chk true (Tr.chk (decide (Int.toNat 0 < x1.length)) (Tr.chk (shOk [Sk.str, Sk.sl 5] (x1.getD (Int.toNat 0) [])) (Tr.chk true (Tr.chk (decide (Int.toNat 1 ≤ x1.length)) (Tr.chk (decide (x1.length ≤ x1.length)) (Tr.chk true (Tr.chk true (Tr.chk true (Tr.chk true (Tr.chk true (Tr.chk true (Tr.chk true (Tr.chk true (Tr.chk true (Tr.chk true (Tr.chk true (Tr.chk true (Tr.leaf (R.st Ex.nrm [(0, V.yl 1), (3, V.ptr 2 0 0 0), (6, V.ptr 3 0 0 0), (54, V.agg [V.c (C.sl 2 n0 t0 x0), V.c (C.sl 2 n1 t1 x1), V.c (C.sl 2 n2 t2 x2)]), (55, V.c (C.int IntKind.i64 2))] [O.box [V.c (C.sl 3 kn kt xsh)], O.yo r q, O.mem 1 0 [[C.sl 2 a0 b0 y0], [C.sl 2 n1 (cutTight none (t1 && decide (x1.length = x1.length))) (List.drop (Int.toNat 1) (List.take x1.length x1))], [C.sl 2 a2 b2 y2]], O.box [V.c (C.str p), V.c (C.sl 5 c0 d0 z0), V.c (C.sl 5 none false ((x1.getD (Int.toNat 0) []).tail.headD C.pnil).xs), V.c (C.sl 5 c2 d2 z2)]]))))))))))))))))))))) (Tr.leaf (R.st Ex.nrm [(0, V.yl 1), (3, V.ptr 2 0 0 0), (6, V.ptr 3 0 0 0), (54, V.agg [V.c (C.sl 2 n0 t0 x0), V.c (C.sl 2 n1 t1 x1), V.c (C.sl 2 n2 t2 x2)]), (55, V.c (C.int IntKind.i64 2))] [O.box [V.c (C.sl 3 kn kt xsh)], O.yo r q, O.mem 1 0 [[C.sl 2 a0 b0 y0], [C.sl 2 a1 b1 y1], [C.sl 2 a2 b2 y2]], O.box [V.c (C.str p), V.c (C.sl 5 c0 d0 z0), V.c (C.sl 5 c1 d1 z1), V.c (C.sl 5 c2 d2 z2)]]))))))) (Tr.leaf (R.st Ex.nrm [(0, V.yl 1), (3, V.ptr 2 0 0 0), (6, V.ptr 3 0 0 0), (54, V.agg [V.c (C.sl 2 n0 t0 x0), V.c (C.sl 2 n1 t1 x1), V.c (C.sl 2 n2 t2 x2)]), (55, V.c (C.int IntKind.i64 2))] [O.box [V.c (C.sl 3 kn kt xsh)], O.yo r q, O.mem 1 0 [[C.sl 2 a0 b0 y0], [C.sl 2 a1 b1 y1], [C.sl 2 a2 b2 y2]], O.box [V.c (C.str p), V.c (C.sl 5 c0 d0 z0), V.c (C.sl 5 c1 d1 z1), V.c (C.sl 5 c2 d2 z2)]]))) (Tr.leaf (R.x (x137B1x0 kn kt xsh r q n0 t0 x0 n1 t1 x1 n2 t2 x2 p c0 d0 z0 c1 d1 z1 c2 d2 z2 ([[C.sl 2 a0 b0 y0], [C.sl 2 a1 b1 y1], [C.sl 2 a2 b2 y2]]))))) := by kernel_rfl
abbrev x137B2x0 (kn : OBo) (kt : Bool) (xsh : LLC) (r : List (List V)) (q : Bool) (n0 : OBo) (t0 : Bool) (x0 : LLC) (n1 : OBo) (t1 : Bool) (x1 : LLC) (n2 : OBo) (t2 : Bool) (x2 : LLC) (p : Bys) (c0 : OBo) (d0 : Bool) (z0 : LLC) (c1 : OBo) (d1 : Bool) (z1 : LLC) (c2 : OBo) (d2 : Bool) (z2 : LLC) (ys2 : LLC) : Ex × Fr × Hp := (Ex.exit 6, [(0, V.yl 1), (3, V.ptr 2 0 0 0), (6, V.ptr 3 0 0 0), (54, V.agg [V.c (C.sl 2 n0 t0 x0), V.c (C.sl 2 n1 t1 x1), V.c (C.sl 2 n2 t2 x2)]), (55, V.c (C.int IntKind.i64 2)), (56, V.c (C.bool false))], [O.box [V.c (C.sl 3 kn kt xsh)], O.yo r q, O.mem 1 0 ys2, O.box [V.c (C.str p), V.c (C.sl 5 c0 d0 z0), V.c (C.sl 5 c1 d1 z1), V.c (C.sl 5 c2 d2 z2)]])
theorem t137B2 (kn : OBo) (kt : Bool) (xsh : LLC) (r : List (List V)) (q : Bool) (n0 : OBo) (t0 : Bool) (x0 : LLC) (n1 : OBo) (t1 : Bool) (x1 : LLC) (n2 : OBo) (t2 : Bool) (x2 : LLC) (a0 : OBo) (b0 : Bool) (y0 : LLC) (a1 : OBo) (b1 : Bool) (y1 : LLC) (a2 : OBo) (b2 : Bool) (y2 : LLC) (p : Bys) (c0 : OBo) (d0 : Bool) (z0 : LLC) (c1 : OBo) (d1 : Bool) (z1 : LLC) (c2 : OBo) (d2 : Bool) (z2 : LLC) : p137.lts bB137 (sB137 kn kt xsh r q n0 t0 x0 n1 t1 x1 n2 t2 x2 a0 b0 y0 a1 b1 y1 a2 b2 y2 p c0 d0 z0 c1 d1 z1 c2 d2 z2 2) = (Tr.br true (Tr.br (decide (0 < (↑x2.length : Int))) (Tr.chk true (Tr.chk true (Tr.chk (decide (Int.toNat 0 < x2.length)) (Tr.chk (shOk [Sk.str, Sk.sl 5] (x2.getD (Int.toNat 0) [])) (Tr.br (((x2.getD (Int.toNat 0) []).headD C.pnil).st == p) (Tr.chk true (Tr.chk true (Tr.chk (decide (Int.toNat 0 < x2.length)) (Tr.chk (shOk [Sk.str, Sk.sl 5] (x2.getD (Int.toNat 0) [])) (Tr.chk true (Tr.chk (decide (Int.toNat 1 ≤ x2.length)) (Tr.chk (decide (x2.length ≤ x2.length)) (Tr.chk true (Tr.chk true (Tr.chk true (Tr.chk true (Tr.chk true (Tr.chk true (Tr.chk true (Tr.chk true (Tr.chk true (Tr.chk true (Tr.chk true (Tr.chk true (Tr.leaf (R.st Ex.nrm [(0, V.yl 1), (3, V.ptr 2 0 0 0), (6, V.ptr 3 0 0 0), (54, V.agg [V.c (C.sl 2 n0 t0 x0), V.c (C.sl 2 n1 t1 x1), V.c (C.sl 2 n2 t2 x2)]), (55, V.c (C.int IntKind.i64 3))] [O.box [V.c (C.sl 3 kn kt xsh)], O.yo r q, O.mem 1 0 [[C.sl 2 a0 b0 y0], [C.sl 2 a1 b1 y1], [C.sl 2 n2 (cutTight none (t2 && decide (x2.length = x2.length))) (List.drop (Int.toNat 1) (List.take x2.length x2))]], O.box [V.c (C.str p), V.c (C.sl 5 c0 d0 z0), V.c (C.sl 5 c1 d1 z1), V.c (C.sl 5 none false ((x2.getD (Int.toNat 0) []).tail.headD C.pnil).xs)]]))))))))))))))))))))) (Tr.leaf (R.st Ex.nrm [(0, V.yl 1), (3, V.ptr 2 0 0 0), (6, V.ptr 3 0 0 0), (54, V.agg [V.c (C.sl 2 n0 t0 x0), V.c (C.sl 2 n1 t1 x1), V.c (C.sl 2 n2 t2 x2)]), (55, V.c (C.int IntKind.i64 3))] [O.box [V.c (C.sl 3 kn kt xsh)], O.yo r q, O.mem 1 0 [[C.sl 2 a0 b0 y0], [C.sl 2 a1 b1 y1], [C.sl 2 a2 b2 y2]], O.box [V.c (C.str p), V.c (C.sl 5 c0 d0 z0), V.c (C.sl 5 c1 d1 z1), V.c (C.sl 5 c2 d2 z2)]]))))))) (Tr.leaf (R.st Ex.nrm [(0, V.yl 1), (3, V.ptr 2 0 0 0), (6, V.ptr 3 0 0 0), (54, V.agg [V.c (C.sl 2 n0 t0 x0), V.c (C.sl 2 n1 t1 x1), V.c (C.sl 2 n2 t2 x2)]), (55, V.c (C.int IntKind.i64 3))] [O.box [V.c (C.sl 3 kn kt xsh)], O.yo r q, O.mem 1 0 [[C.sl 2 a0 b0 y0], [C.sl 2 a1 b1 y1], [C.sl 2 a2 b2 y2]], O.box [V.c (C.str p), V.c (C.sl 5 c0 d0 z0), V.c (C.sl 5 c1 d1 z1), V.c (C.sl 5 c2 d2 z2)]]))) (Tr.leaf (R.x (x137B2x0 kn kt xsh r q n0 t0 x0 n1 t1 x1 n2 t2 x2 p c0 d0 z0 c1 d1 z1 c2 d2 z2 ([[C.sl 2 a0 b0 y0], [C.sl 2 a1 b1 y1], [C.sl 2 a2 b2 y2]]))))) := by kernel_rfl
abbrev x137B3x0 (kn : OBo) (kt : Bool) (xsh : LLC) (r : List (List V)) (q : Bool) (n0 : OBo) (t0 : Bool) (x0 : LLC) (n1 : OBo) (t1 : Bool) (x1 : LLC) (n2 : OBo) (t2 : Bool) (x2 : LLC) (p : Bys) (c0 : OBo) (d0 : Bool) (z0 : LLC) (c1 : OBo) (d1 : Bool) (z1 : LLC) (c2 : OBo) (d2 : Bool) (z2 : LLC) (ys2 : LLC) : Ex × Fr × Hp := (Ex.exit 6, [(0, V.yl 1), (3, V.ptr 2 0 0 0), (6, V.ptr 3 0 0 0), (54, V.agg [V.c (C.sl 2 n0 t0 x0), V.c (C.sl 2 n1 t1 x1), V.c (C.sl 2 n2 t2 x2)]), (55, V.c (C.int IntKind.i64 3)), (56, V.c (C.bool false))], [O.box [V.c (C.sl 3 kn kt xsh)], O.yo r q, O.mem 1 0 ys2, O.box [V.c (C.str p), V.c (C.sl 5 c0 d0 z0), V.c (C.sl 5 c1 d1 z1), V.c (C.sl 5 c2 d2 z2)]])
theorem t137B3 (kn : OBo) (kt : Bool) (xsh : LLC) (r : List (List V)) (q : Bool) (n0 : OBo) (t0 : Bool) (x0 : LLC) (n1 : OBo) (t1 : Bool) (x1 : LLC) (n2 : OBo) (t2 : Bool) (x2 : LLC) (a0 : OBo) (b0 : Bool) (y0 : LLC) (a1 : OBo) (b1 : Bool) (y1 : LLC) (a2 : OBo) (b2 : Bool) (y2 : LLC) (p : Bys) (c0 : OBo) (d0 : Bool) (z0 : LLC) (c1 : OBo) (d1 : Bool) (z1 : LLC) (c2 : OBo) (d2 : Bool) (z2 : LLC) : p137.lts bB137 (sB137 kn kt xsh r q n0 t0 x0 n1 t1 x1 n2 t2 x2 a0 b0 y0 a1 b1 y1 a2 b2 y2 p c0 d0 z0 c1 d1 z1 c2 d2 z2 3) = (Tr.br false Tr.fail (Tr.leaf (R.x (x137B3x0 kn kt xsh r q n0 t0 x0 n1 t1 x1 n2 t2 x2 p c0 d0 z0 c1 d1 z1 c2 d2 z2 ([[C.sl 2 a0 b0 y0], [C.sl 2 a1 b1 y1], [C.sl 2 a2 b2 y2]]))))) := by kernel_rfl
abbrev x137wx0 (kn : OBo) (kt : Bool) (xsh : LLC) (r : List (List V)) (q : Bool) (p : Bys) (c0 : OBo) (d0 : Bool) (z0 : LLC) (c1 : OBo) (d1 : Bool) (z1 : LLC) (c2 : OBo) (d2 : Bool) (z2 : LLC) (ys2 : LLC) : Ex × Fr × Hp := (Ex.ret, [(0, V.yl 1), (3, V.ptr 2 0 0 0), (86, V.c (C.bool true))], [O.box [V.c (C.sl 3 kn kt xsh)], O.yo r.tail q, O.mem 1 0 ys2, O.box [V.c (C.str p), V.c (C.sl 5 c0 d0 z0), V.c (C.sl 5 c1 d1 z1), V.c (C.sl 5 c2 d2 z2)]])
theorem t137w (kn : OBo) (kt : Bool) (xsh : LLC) (r : List (List V)) (q : Bool) (n0 : OBo) (t0 : Bool) (x0 : LLC) (n1 : OBo) (t1 : Bool) (x1 : LLC) (n2 : OBo) (t2 : Bool) (x2 : LLC) (a0 : OBo) (b0 : Bool) (y0 : LLC) (a1 : OBo) (b1 : Bool) (y1 : LLC) (a2 : OBo) (b2 : Bool) (y2 : LLC) (p : Bys) (c0 : OBo) (d0 : Bool) (z0 : LLC) (c1 : OBo) (d1 : Bool) (z1 : LLC) (c2 : OBo) (d2 : Bool) (z2 : LLC) : p137.lkx bU137 1 (xB137 kn kt xsh r q n0 t0 x0 n1 t1 x1 n2 t2 x2 a0 b0 y0 a1 b1 y1 a2 b2 y2 p c0 d0 z0 c1 d1 z1 c2 d2 z2) = (Tr.chk (yoHd r [V.agg [V.c (C.str p), V.c (C.sl 5 c0 d0 z0), V.c (C.sl 5 c1 d1 z1), V.c (C.sl 5 c2 d2 z2)]]) (Tr.br (!yoAns r q) (Tr.leaf (R.x (x137wx0 kn kt xsh r q p c0 d0 z0 c1 d1 z1 c2 d2 z2 ([[C.sl 2 a0 b0 y0], [C.sl 2 a1 b1 y1], [C.sl 2 a2 b2 y2]])))) (Tr.leaf (R.st Ex.nrm [(0, V.yl 1), (3, V.ptr 2 0 0 0)] [O.box [V.c (C.sl 3 kn kt xsh)], O.yo r.tail q, O.mem 1 0 [[C.sl 2 a0 b0 y0], [C.sl 2 a1 b1 y1], [C.sl 2 a2 b2 y2]]])))) := by kernel_rfl
theorem k137e (kn : OBo) (kt : Bool) (xsh : LLC) (r : List (List V)) (q : Bool) (n0 : OBo) (t0 : Bool) (x0 : LLC) (n1 : OBo) (t1 : Bool) (x1 : LLC) (n2 : OBo) (t2 : Bool) (x2 : LLC) (p : Bys) : p137.fkx 1 (xE137 kn kt xsh r q n0 t0 x0 n1 t1 x1 n2 t2 x2 p) = Tr.leaf (R.out [] [O.box [V.c (C.sl 3 kn kt xsh)], O.yo r q]) := by kernel_rfl
end Go.Proofs.YtgaabjmbnomimaaDoor
namespace Go.Proofs.YtgaabjmbnomimaaDoor
open Go Go.Ev
def rcN : List Row → Option Bool | [] => some true | _ :: _ => none
def rcT : List Row → Bool | [] => true | _ :: _ => false
theorem rowsV_eq (rs : List Row) : rowsV rs = .c (.sl 5 (rcN rs) (rcT rs) (rows rs)) := by cases rs <;> rfl
abbrev pk {α : Type} (j k : Nat) (a b : α) : α := if j < k then a else b
section
variable (kn : OBo) (kt : Bool) (xsh : LLC) (r : List (List V)) (q : Bool) (n0 : OBo) (t0 : Bool) (x : List Ent) (n1 : OBo) (t1 : Bool) (y : List Ent) (n2 : OBo) (t2 : Bool) (z : List Ent)
theorem stepA0 (p : Bys) : p137.ld bA137 (p137.lts bA137 (sA137 kn kt xsh r q n0 t0 (ents x) n1 t1 (ents y) n2 t2 (ents z) p 0)) = some (R.s (sA137 kn kt xsh r q n0 t0 (ents x) n1 t1 (ents y) n2 t2 (ents z) (leastP p x) 1)) := by
  rw [t137A0]
  cases x with
  | nil => rfl
  | cons e l =>
    have h1 : (0 : Int) < ((ents (e :: l)).length : Nat) := by rw [ents_length, List.length_cons]; omega
    have h2 : Int.toNat 0 < (ents (e :: l)).length := by rw [ents_length, List.length_cons]; exact Nat.succ_pos _
    have h3 : (ents (e :: l)).getD (Int.toNat 0) [] = ee e := rfl
    cases p with
    | nil => simp only [ld_br, ld_chk', ld_leaf, h1, h2, h3, ee_ok, ee_p, decide_true, if_true, beq_self_eq_true]; rfl
    | cons b s =>
      have h4 : (b :: s == []) = false := rfl
      simp only [ld_br, ld_chk', ld_leaf, h1, h2, h3, h4, ee_ok, ee_p, decide_true, if_true, Bool.false_eq_true, if_false, leastP]
      cases Op.bytesLess e.1 (b :: s) <;> rfl
theorem stepA1 (p : Bys) : p137.ld bA137 (p137.lts bA137 (sA137 kn kt xsh r q n0 t0 (ents x) n1 t1 (ents y) n2 t2 (ents z) p 1)) = some (R.s (sA137 kn kt xsh r q n0 t0 (ents x) n1 t1 (ents y) n2 t2 (ents z) (leastP p y) 2)) := by
  rw [t137A1]
  cases y with
  | nil => rfl
  | cons e l =>
    have h1 : (0 : Int) < ((ents (e :: l)).length : Nat) := by rw [ents_length, List.length_cons]; omega
    have h2 : Int.toNat 0 < (ents (e :: l)).length := by rw [ents_length, List.length_cons]; exact Nat.succ_pos _
    have h3 : (ents (e :: l)).getD (Int.toNat 0) [] = ee e := rfl
    cases p with
    | nil => simp only [ld_br, ld_chk', ld_leaf, h1, h2, h3, ee_ok, ee_p, decide_true, if_true, beq_self_eq_true]; rfl
    | cons b s =>
      have h4 : (b :: s == []) = false := rfl
      simp only [ld_br, ld_chk', ld_leaf, h1, h2, h3, h4, ee_ok, ee_p, decide_true, if_true, Bool.false_eq_true, if_false, leastP]
      cases Op.bytesLess e.1 (b :: s) <;> rfl
theorem stepA2 (p : Bys) : p137.ld bA137 (p137.lts bA137 (sA137 kn kt xsh r q n0 t0 (ents x) n1 t1 (ents y) n2 t2 (ents z) p 2)) = some (R.s (sA137 kn kt xsh r q n0 t0 (ents x) n1 t1 (ents y) n2 t2 (ents z) (leastP p z) 3)) := by
  rw [t137A2]
  cases z with
  | nil => rfl
  | cons e l =>
    have h1 : (0 : Int) < ((ents (e :: l)).length : Nat) := by rw [ents_length, List.length_cons]; omega
    have h2 : Int.toNat 0 < (ents (e :: l)).length := by rw [ents_length, List.length_cons]; exact Nat.succ_pos _
    have h3 : (ents (e :: l)).getD (Int.toNat 0) [] = ee e := rfl
    cases p with
    | nil => simp only [ld_br, ld_chk', ld_leaf, h1, h2, h3, ee_ok, ee_p, decide_true, if_true, beq_self_eq_true]; rfl
    | cons b s =>
      have h4 : (b :: s == []) = false := rfl
      simp only [ld_br, ld_chk', ld_leaf, h1, h2, h3, h4, ee_ok, ee_p, decide_true, if_true, Bool.false_eq_true, if_false, leastP]
      cases Op.bytesLess e.1 (b :: s) <;> rfl
theorem hct137 : (ctOf [(34, s34)]).ok E := ctOf_cons s34_ok ctOf_nil
def least3 (x y z : List Ent) : List UInt8 := leastP (leastP (leastP [] x) y) z
theorem loopA : ∃ xx, xx = xA137 kn kt xsh r q n0 t0 (ents x) n1 t1 (ents y) n2 t2 (ents z) (least3 x y z) ∧ p137.Loops bA137 (sA137 kn kt xsh r q n0 t0 (ents x) n1 t1 (ents y) n2 t2 (ents z) [] 0) xx := by
  refine list_post (p := p137) hct137 (b := bA137) 3 (fun k (p : Bys) => sA137 kn kt xsh r q n0 t0 (ents x) n1 t1 (ents y) n2 t2 (ents z) p k)
    (fun k p => p = match k with | 0 => [] | 1 => leastP [] x | 2 => leastP (leastP [] x) y | _ => least3 x y z) (fun xx => xx = xA137 kn kt xsh r q n0 t0 (ents x) n1 t1 (ents y) n2 t2 (ents z) (least3 x y z)) ?_ ?_ 0 (Nat.zero_le _) [] rfl
  · intro k p hk hp
    match k, hk, hp with
    | 0, _, hp => subst hp; exact .inl ⟨_, rfl, stepA0 kn kt xsh r q n0 t0 x n1 t1 y n2 t2 z []⟩
    | 1, _, hp => subst hp; exact .inl ⟨_, rfl, stepA1 kn kt xsh r q n0 t0 x n1 t1 y n2 t2 z _⟩
    | 2, _, hp => subst hp; exact .inl ⟨_, rfl, stepA2 kn kt xsh r q n0 t0 x n1 t1 y n2 t2 z _⟩
  · intro p hp
    subst hp
    refine ⟨_, ?_, rfl, ?_⟩
    · simp
    · show p137.ld bA137 (p137.lts bA137 (sA137 kn kt xsh r q n0 t0 (ents x) n1 t1 (ents y) n2 t2 (ents z) (least3 x y z) 3)) = _
      rw [t137A3]; rfl
abbrev sBk (p : Bys) (k : Nat) : Fr × Hp := sB137 kn kt xsh r q n0 t0 (ents x) n1 t1 (ents y) n2 t2 (ents z) n0 t0 (ents (pk 0 k (tailP p x) x)) n1 t1 (ents (pk 1 k (tailP p y) y)) n2 t2 (ents (pk 2 k (tailP p z) z))
  p (rcN (pk 0 k (headP p x) [])) (rcT (pk 0 k (headP p x) [])) (rows (pk 0 k (headP p x) [])) (rcN (pk 1 k (headP p y) [])) (rcT (pk 1 k (headP p y) [])) (rows (pk 1 k (headP p y) [])) (rcN (pk 2 k (headP p z) [])) (rcT (pk 2 k (headP p z) [])) (rows (pk 2 k (headP p z) [])) k
theorem rc_ne {l : List Row} (h : l ≠ []) : rcN l = none ∧ rcT l = false := by cases l with | nil => exact absurd rfl h | cons a r => exact ⟨rfl, rfl⟩
theorem loopB (p : Bys) (hx : ∀ e ∈ x, e.2 ≠ []) (hy : ∀ e ∈ y, e.2 ≠ []) (hz : ∀ e ∈ z, e.2 ≠ []) : ∃ xx, xx = xB137 kn kt xsh r q n0 t0 (ents x) n1 t1 (ents y) n2 t2 (ents z) n0 t0 (ents (tailP p x)) n1 t1 (ents (tailP p y)) n2 t2 (ents (tailP p z))
    p (rcN (headP p x)) (rcT (headP p x)) (rows (headP p x)) (rcN (headP p y)) (rcT (headP p y)) (rows (headP p y)) (rcN (headP p z)) (rcT (headP p z)) (rows (headP p z)) ∧ p137.Loops bB137 (sBk kn kt xsh r q n0 t0 x n1 t1 y n2 t2 z p 0) xx := by
  refine list_post (p := p137) hct137 (b := bB137) 3 (fun k (_ : Unit) => sBk kn kt xsh r q n0 t0 x n1 t1 y n2 t2 z p k) (fun _ _ => True) (fun xx => xx = _) ?_ ?_ 0 (Nat.zero_le _) () trivial
  · intro k _ hk _
    have hd : ∀ n : Nat, decide (n = n) = true := fun n => by simp
    have hle : ∀ n : Nat, decide (n ≤ n) = true := fun n => by simp
    match k, hk with
    | 0, _ =>
      refine .inl ⟨(), trivial, ?_⟩
      show p137.ld bB137 (p137.lts bB137 (sB137 kn kt xsh r q n0 t0 (ents x) n1 t1 (ents y) n2 t2 (ents z) n0 t0 (ents x) n1 t1 (ents y) n2 t2 (ents z) p (rcN []) (rcT []) (rows []) (rcN []) (rcT []) (rows []) (rcN []) (rcT []) (rows []) 0)) = _
      rw [t137B0]
      cases x with
      | nil => rfl
      | cons e l =>
        have h1 : (0 : Int) < ((ents (e :: l)).length : Nat) := by rw [ents_length, List.length_cons]; omega
        have h2 : Int.toNat 0 < (ents (e :: l)).length := by rw [ents_length, List.length_cons]; exact Nat.succ_pos _
        have h3 : (ents (e :: l)).getD (Int.toNat 0) [] = ee e := rfl
        have h5 : Int.toNat 1 ≤ (ents (e :: l)).length := h2
        obtain ⟨r1, r2⟩ := rc_ne (hx e (by simp))
        simp only [ld_br, ld_chk', ld_leaf, h1, h2, h3, h5, ee_ok, ee_p, ee_r, decide_true, if_true, hd, hle, List.take_length, cutTight, Bool.and_true]
        cases c : e.1 == p with
        | false => simp only [Bool.false_eq_true, if_false, sBk, pk, Nat.zero_add, Nat.reduceAdd, Nat.reduceLT, Nat.reduceLeDiff, Nat.reduceEqDiff, Nat.lt_irrefl, reduceIte, headP, tailP, c, cond_false]; rfl
        | true => simp only [if_true, sBk, pk, Nat.zero_add, Nat.reduceAdd, Nat.reduceLT, Nat.reduceLeDiff, Nat.reduceEqDiff, Nat.lt_irrefl, reduceIte, headP, tailP, c, cond_true, r1, r2]; rfl
    | 1, _ =>
      refine .inl ⟨(), trivial, ?_⟩
      show p137.ld bB137 (p137.lts bB137 (sB137 kn kt xsh r q n0 t0 (ents x) n1 t1 (ents y) n2 t2 (ents z) n0 t0 (ents (tailP p x)) n1 t1 (ents y) n2 t2 (ents z) p (rcN (headP p x)) (rcT (headP p x)) (rows (headP p x)) (rcN []) (rcT []) (rows []) (rcN []) (rcT []) (rows []) 1)) = _
      rw [t137B1]
      cases y with
      | nil => rfl
      | cons e l =>
        have h1 : (0 : Int) < ((ents (e :: l)).length : Nat) := by rw [ents_length, List.length_cons]; omega
        have h2 : Int.toNat 0 < (ents (e :: l)).length := by rw [ents_length, List.length_cons]; exact Nat.succ_pos _
        have h3 : (ents (e :: l)).getD (Int.toNat 0) [] = ee e := rfl
        have h5 : Int.toNat 1 ≤ (ents (e :: l)).length := h2
        obtain ⟨r1, r2⟩ := rc_ne (hy e (by simp))
        simp only [ld_br, ld_chk', ld_leaf, h1, h2, h3, h5, ee_ok, ee_p, ee_r, decide_true, if_true, hd, hle, List.take_length, cutTight, Bool.and_true]
        cases c : e.1 == p with
        | false => simp only [Bool.false_eq_true, if_false, sBk, pk, Nat.zero_add, Nat.reduceAdd, Nat.reduceLT, Nat.reduceLeDiff, Nat.reduceEqDiff, Nat.lt_irrefl, reduceIte, headP, tailP, c, cond_false]; rfl
        | true => simp only [if_true, sBk, pk, Nat.zero_add, Nat.reduceAdd, Nat.reduceLT, Nat.reduceLeDiff, Nat.reduceEqDiff, Nat.lt_irrefl, reduceIte, headP, tailP, c, cond_true, r1, r2]; rfl
    | 2, _ =>
      refine .inl ⟨(), trivial, ?_⟩
      show p137.ld bB137 (p137.lts bB137 (sB137 kn kt xsh r q n0 t0 (ents x) n1 t1 (ents y) n2 t2 (ents z) n0 t0 (ents (tailP p x)) n1 t1 (ents (tailP p y)) n2 t2 (ents z) p (rcN (headP p x)) (rcT (headP p x)) (rows (headP p x)) (rcN (headP p y)) (rcT (headP p y)) (rows (headP p y)) (rcN []) (rcT []) (rows []) 2)) = _
      rw [t137B2]
      cases z with
      | nil => rfl
      | cons e l =>
        have h1 : (0 : Int) < ((ents (e :: l)).length : Nat) := by rw [ents_length, List.length_cons]; omega
        have h2 : Int.toNat 0 < (ents (e :: l)).length := by rw [ents_length, List.length_cons]; exact Nat.succ_pos _
        have h3 : (ents (e :: l)).getD (Int.toNat 0) [] = ee e := rfl
        have h5 : Int.toNat 1 ≤ (ents (e :: l)).length := h2
        obtain ⟨r1, r2⟩ := rc_ne (hz e (by simp))
        simp only [ld_br, ld_chk', ld_leaf, h1, h2, h3, h5, ee_ok, ee_p, ee_r, decide_true, if_true, hd, hle, List.take_length, cutTight, Bool.and_true]
        cases c : e.1 == p with
        | false => simp only [Bool.false_eq_true, if_false, sBk, pk, Nat.zero_add, Nat.reduceAdd, Nat.reduceLT, Nat.reduceLeDiff, Nat.reduceEqDiff, Nat.lt_irrefl, reduceIte, headP, tailP, c, cond_false]; rfl
        | true => simp only [if_true, sBk, pk, Nat.zero_add, Nat.reduceAdd, Nat.reduceLT, Nat.reduceLeDiff, Nat.reduceEqDiff, Nat.lt_irrefl, reduceIte, headP, tailP, c, cond_true, r1, r2]; rfl
  · intro _ _
    refine ⟨_, ?_, rfl, ?_⟩
    · simp
    · show p137.ld bB137 (p137.lts bB137 (sB137 kn kt xsh r q n0 t0 (ents x) n1 t1 (ents y) n2 t2 (ents z) n0 t0 (ents (tailP p x)) n1 t1 (ents (tailP p y)) n2 t2 (ents (tailP p z)) p (rcN (headP p x)) (rcT (headP p x)) (rows (headP p x)) (rcN (headP p y)) (rcT (headP p y)) (rows (headP p y)) (rcN (headP p z)) (rcT (headP p z)) (rows (headP p z)) 3)) = _
      rw [t137B3]; rfl
end
end Go.Proofs.YtgaabjmbnomimaaDoor
namespace Go.Proofs.YtgaabjmbnomimaaDoor
open Go Go.Ev
theorem bl_ge {e p q : List UInt8} (h : Op.bytesLess e p = false) (k : Op.bytesLess p q = false) : Op.bytesLess e q = false := by
  cases c : Op.bytesLess e q with
  | false => rfl
  | true =>
    cases d : Op.bytesLess q p with
    | true => rw [bl_trans c d] at h; cases h
    | false => rw [bl_total _ _ k d, c] at h; cases h
theorem bl_gt {p q : List UInt8} (h : Op.bytesLess q p = false) (k : q ≠ p) : Op.bytesLess p q = true := by
  cases c : Op.bytesLess p q with
  | true => rfl
  | false => exact absurd (bl_total _ _ h c) k
theorem look_in {l : List Ent} {e : Ent} (h : Rise l) (he : e ∈ l) : look l e.1 = e.2 := by
  induction l with
  | nil => cases he
  | cons a l ih =>
    rw [Rise, List.pairwise_cons] at h
    rw [look]
    rcases List.mem_cons.1 he with rfl | he
    · rw [if_pos rfl]
    · rw [if_neg (bl_ne (h.1 e he)), ih h.2 he]
theorem look_ex {l : List Ent} {q : List UInt8} (h : look l q ≠ []) : ∃ e ∈ l, e.1 = q := by
  induction l with
  | nil => exact absurd rfl h
  | cons a l ih =>
    rw [look] at h
    split at h
    · rename_i c; exact ⟨a, by simp, c⟩
    · obtain ⟨e, h1, h2⟩ := ih h; exact ⟨e, by simp [h1], h2⟩
theorem rise_ext : ∀ {x y : List Ent}, Rise x → Rise y → (∀ e ∈ x, e.2 ≠ []) → (∀ e ∈ y, e.2 ≠ []) → (∀ q, look x q = look y q) → x = y
  | [], [], _, _, _, _, _ => rfl
  | [], e :: l, _, hy, _, ny, h => by
    have := h e.1
    rw [look_in hy (by simp)] at this
    exact absurd this.symm (ny e (by simp))
  | e :: l, [], hx, _, nx, _, h => by
    have := h e.1
    rw [look_in hx (by simp)] at this
    exact absurd this (nx e (by simp))
  | e :: l, d :: m, hx, hy, nx, ny, h => by
    have hx' := hx; have hy' := hy
    rw [Rise, List.pairwise_cons] at hx' hy'
    have key : ∀ {e d : Ent} {l m : List Ent}, Rise (e :: l) → (∀ a ∈ m, Op.bytesLess d.1 a.1 = true) → e.2 ≠ [] → look (e :: l) e.1 = look (d :: m) e.1 → Op.bytesLess e.1 d.1 = false := fun {e d l m} hx hm ne hh => by
      rw [look_in hx (by simp)] at hh
      obtain ⟨a, ha, hae⟩ := look_ex (l := d :: m) (q := e.1) (by rw [← hh]; exact ne)
      rw [← hae]
      rcases List.mem_cons.1 ha with rfl | ha
      · exact bl_irrefl _
      · exact bl_asymm (hm a ha)
    have e1 : e.1 = d.1 := bl_total _ _ (key hx hy'.1 (nx e (by simp)) (h e.1)) (key hy hx'.1 (ny d (by simp)) (h d.1).symm)
    have e2 : e.2 = d.2 := by
      have := h e.1
      rw [look_in hx (by simp), e1, look_in hy (by simp)] at this; exact this
    have ed : e = d := Prod.ext e1 e2
    subst ed
    have hl : l = m := by
      refine rise_ext hx'.2 hy'.2 (fun a ha => nx a (by simp [ha])) (fun a ha => ny a (by simp [ha])) fun q => ?_
      by_cases c : e.1 = q
      · rw [look_none fun a ha k => bl_ne (hx'.1 a ha) (by rw [k, c]), look_none fun a ha k => bl_ne (hy'.1 a ha) (by rw [k, c])]
      · have := h q
        rw [look, look, if_neg c, if_neg c] at this; exact this
    rw [hl]
abbrev Pne (x : List Ent) : Prop := ∀ e ∈ x, e.1 ≠ []
abbrev Rne (x : List Ent) : Prop := ∀ e ∈ x, e.2 ≠ []
abbrev Lo (p : Bys) (x : List Ent) : Prop := ∀ e ∈ x, Op.bytesLess e.1 p = false
theorem Lo.mono {p q : List UInt8} {x : List Ent} (h : Lo p x) (k : Op.bytesLess p q = false) : Lo q x := fun e he => bl_ge (h e he) k
theorem leastP_spec (p : Bys) {x : List Ent} (hx : Rise x) (nx : Pne x) :
    (leastP p x = [] ↔ p = [] ∧ x = []) ∧ Lo (leastP p x) x ∧ (p ≠ [] → Op.bytesLess p (leastP p x) = false) ∧ (leastP p x = p ∨ ∃ e ∈ x, leastP p x = e.1) := by
  cases x with
  | nil => exact ⟨by simp [leastP], by simp, fun _ => bl_irrefl _, .inl rfl⟩
  | cons e l =>
    have hne := nx e (by simp)
    have hlo : Lo e.1 (e :: l) := fun a ha => by
      rcases List.mem_cons.1 ha with rfl | ha
      · exact bl_irrefl _
      · rw [Rise, List.pairwise_cons] at hx; exact bl_asymm (hx.1 a ha)
    cases p with
    | nil => exact ⟨by simp [leastP, hne], hlo, fun h => absurd rfl h, .inr ⟨e, by simp, rfl⟩⟩
    | cons b q =>
      simp only [leastP]
      cases c : Op.bytesLess e.1 (b :: q) with
      | true => exact ⟨by simp [hne], hlo, fun _ => bl_asymm c, .inr ⟨e, by simp, rfl⟩⟩
      | false => exact ⟨by simp, hlo.mono c, fun _ => bl_irrefl _, .inl rfl⟩
theorem least3_spec {x y z : List Ent} (hx : Rise x) (hy : Rise y) (hz : Rise z) (nx : Pne x) (ny : Pne y) (nz : Pne z) :
    (leastP (leastP (leastP [] x) y) z = [] ↔ x = [] ∧ y = [] ∧ z = []) ∧ Lo (leastP (leastP (leastP [] x) y) z) x ∧ Lo (leastP (leastP (leastP [] x) y) z) y ∧ Lo (leastP (leastP (leastP [] x) y) z) z ∧
    (leastP (leastP (leastP [] x) y) z ≠ [] → ∃ e, (e ∈ x ∨ e ∈ y ∨ e ∈ z) ∧ leastP (leastP (leastP [] x) y) z = e.1) := by
  obtain ⟨a1, a2, a3, a4⟩ := leastP_spec [] hx nx
  obtain ⟨b1, b2, b3, b4⟩ := leastP_spec (leastP [] x) hy ny
  obtain ⟨c1, c2, c3, c4⟩ := leastP_spec (leastP (leastP [] x) y) hz nz
  generalize leastP [] x = p at *
  generalize leastP p y = q at *
  generalize leastP q z = r at *
  have hqr : ∀ {w : List Ent}, Lo q w → (q = [] → w = []) → Lo r w := fun {w} h k => by
    by_cases c : q = []
    · rw [k c]; simp
    · exact h.mono (c3 c)
  have hpq : ∀ {w : List Ent}, Lo p w → (p = [] → w = []) → Lo q w := fun {w} h k => by
    by_cases c : p = []
    · rw [k c]; simp
    · exact h.mono (b3 c)
  refine ⟨by rw [c1, b1, a1]; simp [and_assoc], hqr (hpq a2 fun h => (a1.1 h).2) fun h => (a1.1 (b1.1 h).1).2, hqr b2 fun h => (b1.1 h).2, c2, fun hr => ?_⟩
  rcases c4 with c4 | ⟨e, he, c4⟩
  · rcases b4 with b4 | ⟨e, he, b4⟩
    · rcases a4 with a4 | ⟨e, he, a4⟩
      · exact absurd (by rw [c4, b4, a4]) hr
      · exact ⟨e, .inl he, by rw [c4, b4, a4]⟩
    · exact ⟨e, .inr (.inl he), by rw [c4, b4]⟩
  · exact ⟨e, .inr (.inr he), c4⟩
theorem headP_look {p : List UInt8} {x : List Ent} (hx : Rise x) (h : Lo p x) : headP p x = look x p := by
  cases x with
  | nil => rfl
  | cons e l =>
    rw [headP, look]
    by_cases c : e.1 = p
    · rw [if_pos c, beq_iff_eq.2 c]; rfl
    · rw [if_neg c, beq_eq_false_iff_ne.2 c]
      rw [Rise, List.pairwise_cons] at hx
      have h1 := bl_gt (h e (by simp)) c
      exact (look_none fun a ha k => bl_ne (bl_trans h1 (hx.1 a ha)) k.symm).symm
theorem tailP_sub (p : Bys) (x : List Ent) : (tailP p x).Sublist x := by
  cases x with
  | nil => exact .slnil
  | cons e l => rw [tailP]; cases e.1 == p with | true => exact List.sublist_cons_self _ _ | false => exact List.Sublist.refl _
theorem tailP_gt {p : List UInt8} {x : List Ent} (hx : Rise x) (h : Lo p x) : ∀ e ∈ tailP p x, Op.bytesLess p e.1 = true := by
  cases x with
  | nil => simp [tailP]
  | cons e l =>
    intro a ha
    rw [Rise, List.pairwise_cons] at hx
    rw [tailP] at ha
    cases c : e.1 == p with
    | true =>
      rw [c] at ha
      have := hx.1 a ha
      rw [beq_iff_eq.1 c] at this; exact this
    | false =>
      rw [c] at ha
      have h1 := bl_gt (h e (by simp)) (beq_eq_false_iff_ne.1 c)
      rcases List.mem_cons.1 ha with rfl | ha
      · exact h1
      · exact bl_trans h1 (hx.1 a ha)
theorem tailP_look {p q : List UInt8} {x : List Ent} (hq : q ≠ p) : look (tailP p x) q = look x q := by
  cases x with
  | nil => rfl
  | cons e l =>
    rw [tailP, look]
    cases c : e.1 == p with
    | true => rw [if_neg (by rw [beq_iff_eq.1 c]; exact fun h => hq h.symm)]; rfl
    | false => rfl
theorem tailP_len {p : List UInt8} {x : List Ent} (hx : Rise x) (h : Lo p x) {e : Ent} (he : e ∈ x) (hp : p = e.1) : (tailP p x).length < x.length := by
  cases x with
  | nil => cases he
  | cons a l =>
    have : (a.1 == p) = true := by
      rw [beq_iff_eq]
      rcases List.mem_cons.1 he with rfl | he
      · exact hp.symm
      · rw [Rise, List.pairwise_cons] at hx
        have h1 := hx.1 e he
        rw [← hp, h a (by simp)] at h1; cases h1
    rw [tailP, this]; simp
theorem sidesF_end (f : Nat) {x y z : List Ent} (h : leastP (leastP (leastP [] x) y) z = []) : sidesF (f + 1) x y z = [] := by rw [sidesF, h]
theorem sidesF_step (f : Nat) {x y z : List Ent} {p : List UInt8} (h : leastP (leastP (leastP [] x) y) z = p) (hp : p ≠ []) :
    sidesF (f + 1) x y z = ⟨p, headP p x, headP p y, headP p z⟩ :: sidesF f (tailP p x) (tailP p y) (tailP p z) := by
  rw [sidesF, h]
  cases p with
  | nil => exact absurd rfl hp
  | cons b q => rfl
structure SP (x y z : List Ent) (S : List Sd) : Prop where
  rise : S.Pairwise fun s t => Op.bytesLess s.p t.p = true
  ne : ∀ s ∈ S, s.p ≠ []
  a : ∀ s ∈ S, s.a = look x s.p
  b : ∀ s ∈ S, s.b = look y s.p
  c : ∀ s ∈ S, s.c = look z s.p
  mem : ∀ s ∈ S, ∃ e, (e ∈ x ∨ e ∈ y ∨ e ∈ z) ∧ e.1 = s.p
  all : ∀ e, e ∈ x ∨ e ∈ y ∨ e ∈ z → ∃ s ∈ S, s.p = e.1
theorem sidesF_spec : ∀ (f : Nat) (x y z : List Ent), x.length + y.length + z.length < f → Rise x → Rise y → Rise z → Pne x → Pne y → Pne z → SP x y z (sidesF f x y z)
  | 0, x, y, z, h, _, _, _, _, _, _ => by omega
  | f + 1, x, y, z, h, hx, hy, hz, nx, ny, nz => by
    obtain ⟨h1, h2, h3, h4, h5⟩ := least3_spec hx hy hz nx ny nz
    generalize hp : leastP (leastP (leastP [] x) y) z = p at *
    by_cases c : p = []
    · subst c
      obtain ⟨rfl, rfl, rfl⟩ := h1.1 rfl
      rw [sidesF_end f hp]
      exact ⟨.nil, by simp, by simp, by simp, by simp, by simp, by simp⟩
    · rw [sidesF_step f hp c]
      have sx := tailP_sub p x; have sy := tailP_sub p y; have sz := tailP_sub p z
      have hlen : (tailP p x).length + (tailP p y).length + (tailP p z).length < f := by
        obtain ⟨e, he, hpe⟩ := h5 c
        have l1 := sx.length_le; have l2 := sy.length_le; have l3 := sz.length_le
        rcases he with he | he | he
        · have := tailP_len hx h2 he hpe; omega
        · have := tailP_len hy h3 he hpe; omega
        · have := tailP_len hz h4 he hpe; omega
      have ih := sidesF_spec f (tailP p x) (tailP p y) (tailP p z) hlen (hx.sublist sx) (hy.sublist sy) (hz.sublist sz) (fun e he => nx e (sx.subset he)) (fun e he => ny e (sy.subset he)) (fun e he => nz e (sz.subset he))
      have hgt : ∀ s ∈ sidesF f (tailP p x) (tailP p y) (tailP p z), Op.bytesLess p s.p = true := fun s hs => by
        obtain ⟨e, he, hpe⟩ := ih.mem s hs
        rw [← hpe]
        rcases he with he | he | he
        · exact tailP_gt hx h2 e he
        · exact tailP_gt hy h3 e he
        · exact tailP_gt hz h4 e he
      have hne : ∀ s ∈ sidesF f (tailP p x) (tailP p y) (tailP p z), s.p ≠ p := fun s hs k => bl_ne (hgt s hs) k.symm
      refine ⟨List.pairwise_cons.2 ⟨hgt, ih.rise⟩, ?_, ?_, ?_, ?_, ?_, ?_⟩
      · intro s hs
        rcases List.mem_cons.1 hs with rfl | hs
        · exact c
        · exact ih.ne s hs
      · intro s hs
        rcases List.mem_cons.1 hs with rfl | hs
        · exact headP_look hx h2
        · rw [ih.a s hs, tailP_look (hne s hs)]
      · intro s hs
        rcases List.mem_cons.1 hs with rfl | hs
        · exact headP_look hy h3
        · rw [ih.b s hs, tailP_look (hne s hs)]
      · intro s hs
        rcases List.mem_cons.1 hs with rfl | hs
        · exact headP_look hz h4
        · rw [ih.c s hs, tailP_look (hne s hs)]
      · intro s hs
        rcases List.mem_cons.1 hs with rfl | hs
        · obtain ⟨e, he, hpe⟩ := h5 c
          exact ⟨e, he, hpe.symm⟩
        · obtain ⟨e, he, hpe⟩ := ih.mem s hs
          exact ⟨e, he.imp (fun h => sx.subset h) (Or.imp (fun h => sy.subset h) fun h => sz.subset h), hpe⟩
      · intro e he
        have tl : ∀ {w : List Ent}, Lo p w → e ∈ w → e.1 = p ∨ e ∈ tailP p w := fun {w} hw hew => by
          by_cases k : e.1 = p
          · exact .inl k
          · right
            cases w with
            | nil => cases hew
            | cons d l =>
              rw [tailP]
              cases k2 : d.1 == p with
              | false => exact hew
              | true =>
                rcases List.mem_cons.1 hew with rfl | hew
                · exact absurd (beq_iff_eq.1 k2) k
                · exact hew
        have hh : e.1 = p ∨ (e ∈ tailP p x ∨ e ∈ tailP p y ∨ e ∈ tailP p z) := by
          rcases he with he | he | he
          · exact (tl h2 he).imp id .inl
          · exact (tl h3 he).imp id fun h => .inr (.inl h)
          · exact (tl h4 he).imp id fun h => .inr (.inr h)
        rcases hh with hh | hh
        · exact ⟨_, List.mem_cons_self, hh.symm⟩
        · obtain ⟨s, hs, hp⟩ := ih.all e hh
          exact ⟨s, by simp [hs], hp⟩
structure Gd (x : List Ent) : Prop where
  rise : Rise x
  pne : Pne x
  rne : Rne x
  len : ∀ e ∈ x, e.1.length ≤ 24
  right : ∀ e ∈ x, right e.2 = true
theorem sidesP_spec {x y z : List Ent} (hx : Gd x) (hy : Gd y) (hz : Gd z) : SP x y z (sidesP x y z) :=
  sidesF_spec _ x y z (Nat.lt_succ_self _) hx.rise hy.rise hz.rise hx.pne hy.pne hz.pne
theorem Gd.nil : Gd [] := ⟨.nil, by simp, by simp, by simp, by simp⟩
mutual
theorem entT_len24 : ∀ (t : Nd) (n : Nat), okT t n = true → ∀ e ∈ entT t, e.1.length ≤ n
  | .node s rs ks, n, h, e, he => by
    obtain ⟨g1, g2, g3, g4, g5⟩ := okT_iff.1 h
    simp only [Nd.lab_node, Nd.rows_node, Nd.kids_node] at g2 g5
    rw [entT] at he
    rcases List.mem_append.1 he with he | he
    · split at he
      · cases he
      · simp only [List.mem_singleton] at he; subst he; exact g2
    · obtain ⟨d, hd, rfl⟩ := List.mem_map.1 he
      have := entL_len24 ks _ g5 d hd
      simp only [List.length_append]; omega
theorem entL_len24 : ∀ (l : List Nd) (n : Nat), kidsOk l n → ∀ e ∈ entL l, e.1.length ≤ n
  | [], _, _, e, he => by simp [entL] at he
  | t :: r, n, h, e, he => by
    rw [entL] at he
    rcases List.mem_append.1 he with he | he
    · exact entT_len24 t n (h.1 t (by simp)) e he
    · exact entL_len24 r n (kidsOk_sub h (List.sublist_cons_self _ _)) e he
end
theorem gd_ent {t : Nd} (h : okR t = true) : Gd (entR t) :=
  have hk := (okR_iff.1 h).2.2
  ⟨entR_rise h, entL_ne_nil hk, entL_ne _, entL_len24 _ _ hk, entL_right _ _ hk⟩
theorem entP_R {t : Nd} (h : okR t = true) : entP t = entR t := by rw [entP, h]; rfl
theorem gd_entP (t : Nd) : Gd (entP t) := by
  rw [entP]
  cases h : okR t with
  | false => exact Gd.nil
  | true => exact gd_ent h
theorem getR_P (t : Nd) (q : Bys) : getR t q = look (entP t) q := by
  rw [getR_look, entP]
  cases okR t <;> rfl
theorem entP_inj {t u : Nd} (h : okR t = true) (k : okR u = true) (e : entR t = entR u) : t = u := by
  obtain ⟨a1, a2, _⟩ := okR_iff.1 h
  obtain ⟨b1, b2, _⟩ := okR_iff.1 k
  have e1 := of_ent h (f := sizeL t.kids + sizeL u.kids) (by omega)
  have e2 := of_ent k (f := sizeL t.kids + sizeL u.kids) (by omega)
  rw [e] at e1
  have e3 : t.kids = u.kids := e1.symm.trans e2
  cases t; cases u
  simp only [Nd.lab_node, Nd.rows_node, Nd.kids_node] at a1 a2 b1 b2 e3
  rw [a1, a2, b1, b2, e3]
def bad3 (a b c : List Row) : Bool := decide (b ≠ c ∧ a ≠ c ∧ a ≠ b)
def met3 (a b c : List Row) : List Row := if b = c ∨ a = c then b else c
def badS (s : Sd) : Bool := bad3 s.a s.b s.c
def metS (s : Sd) : List Row := met3 s.a s.b s.c
def gM (s : Sd) : Option (List Row) := if badS s = true then none else some (metS s)
def nd0 : Nd := .node [] [] []
theorem nd0_ok : okR nd0 = true := rfl
def putsF (g : Sd → Option (List Row)) : Nd → List Sd → Nd
  | t, [] => t
  | t, s :: r => putsF g (match g s with | some l => putR t s.p l | none => t) r
def mkE (g : Sd → Option (List Row)) : List Sd → List Ent
  | [] => []
  | s :: r => (match g s with | some (a :: l) => [(s.p, a :: l)] | _ => []) ++ mkE g r
theorem mkE_look {g : Sd → Option (List Row)} {S : List Sd} {q : List UInt8} {v : List Row} (h1 : ∀ s ∈ S, s.p = q → g s = some v ∨ (g s = none ∧ v = [])) (h2 : v ≠ [] → ∃ s ∈ S, s.p = q) : look (mkE g S) q = v := by
  induction S with
  | nil =>
    by_cases c : v = []
    · rw [c]; rfl
    · obtain ⟨s, hs, _⟩ := h2 c; cases hs
  | cons s r ih =>
    rw [mkE]
    by_cases c : s.p = q
    · rcases h1 s (by simp) c with k | ⟨k, rfl⟩
      · rw [k]
        cases v with
        | nil => exact ih (fun t ht => h1 t (by simp [ht])) (fun h => absurd rfl h)
        | cons a l => simp [look, c]
      · rw [k]; exact ih (fun t ht => h1 t (by simp [ht])) (fun h => absurd rfl h)
    · have hl : look (mkE g r) q = v := ih (fun t ht => h1 t (by simp [ht])) fun h => by
        obtain ⟨t, ht, hp⟩ := h2 h
        rcases List.mem_cons.1 ht with rfl | ht
        · exact absurd hp c
        · exact ⟨t, ht, hp⟩
      split
      · simp only [List.singleton_append, look, if_neg c]; exact hl
      · exact hl
theorem putsF_ent {g : Sd → Option (List Row)} : ∀ {S : List Sd} {t : Nd}, okR t = true → (S.Pairwise fun s u => Op.bytesLess s.p u.p = true) → (∀ s ∈ S, s.p ≠ [] ∧ s.p.length ≤ 24) → (∀ s ∈ S, ∀ l, g s = some l → right l = true) →
    (∀ e ∈ entR t, ∀ s ∈ S, Op.bytesLess e.1 s.p = true) → okR (putsF g t S) = true ∧ entR (putsF g t S) = entR t ++ mkE g S
  | [], t, h, _, _, _, _ => ⟨h, by simp [putsF, mkE]⟩
  | s :: r, t, h, hr, hp, hg, hl => by
    rw [List.pairwise_cons] at hr
    rw [putsF, mkE]
    have go : ∀ {u : Nd} {X : List Ent}, okR u = true → entR u = entR t ++ X → (∀ e ∈ X, e.1 = s.p) → okR (putsF g u r) = true ∧ entR (putsF g u r) = entR t ++ (X ++ mkE g r) := fun {u X} hu he hx => by
      have := putsF_ent (g := g) (S := r) hu hr.2 (fun a ha => hp a (by simp [ha])) (fun a ha => hg a (by simp [ha])) (fun e hee a ha => by
        rw [he] at hee
        rcases List.mem_append.1 hee with hee | hee
        · exact hl e hee a (by simp [ha])
        · rw [hx e hee]; exact hr.1 a ha)
      rw [he, List.append_assoc] at this; exact this
    cases hgs : g s with
    | none => exact go (X := []) h (by simp) (by simp)
    | some l =>
      obtain ⟨k1, k2⟩ := putR_ok h (hp s (by simp)).1 (hp s (by simp)).2 (hg s (by simp) l hgs)
      have k3 : entR (putR t s.p l) = entR t ++ (if l = [] then [] else [(s.p, l)]) := by
        refine k2.trans ?_
        have := insE_lt (A := entR t) (l := []) (p := s.p) (r := l) fun e he => hl e he s (by simp)
        rw [List.append_nil] at this
        exact this
      cases l with
      | nil => exact go (X := []) k1 (by simpa using k3) (by simp)
      | cons a l => exact go (X := [(s.p, a :: l)]) k1 (by simpa using k3) (by simp)
end Go.Proofs.YtgaabjmbnomimaaDoor
namespace Go.Proofs.YtgaabjmbnomimaaDoor
open Go Go.Ev
theorem leastP_or (p : Bys) (x : List Ent) : leastP p x = p ∨ ∃ e l, x = e :: l ∧ leastP p x = e.1 := by
  cases x with
  | nil => exact .inl rfl
  | cons e l =>
    cases p with
    | nil => exact .inr ⟨e, l, rfl, rfl⟩
    | cons b q =>
      simp only [leastP]
      cases Op.bytesLess e.1 (b :: q) with
      | true => exact .inr ⟨e, l, rfl, rfl⟩
      | false => exact .inl rfl
theorem least3_or (x y z : List Ent) : least3 x y z = [] ∨ ∃ e l, (x = e :: l ∨ y = e :: l ∨ z = e :: l) ∧ least3 x y z = e.1 := by
  unfold least3
  rcases leastP_or (leastP (leastP [] x) y) z with h | ⟨e, l, h1, h2⟩
  · rw [h]
    rcases leastP_or (leastP [] x) y with h | ⟨e, l, h1, h2⟩
    · rw [h]
      rcases leastP_or [] x with h | ⟨e, l, h1, h2⟩
      · exact .inl h
      · exact .inr ⟨e, l, .inl h1, h2⟩
    · exact .inr ⟨e, l, .inr (.inl h1), h2⟩
  · exact .inr ⟨e, l, .inr (.inr h1), h2⟩
theorem tailP_lt {x : List Ent} {e : Ent} {l : List Ent} (h : x = e :: l) : (tailP e.1 x).length < x.length := by
  subst h; simp [tailP]
theorem tails_lt {x y z : List Ent} (h : least3 x y z ≠ []) : (tailP (least3 x y z) x).length + (tailP (least3 x y z) y).length + (tailP (least3 x y z) z).length < x.length + y.length + z.length := by
  have l1 := (tailP_sub (least3 x y z) x).length_le
  have l2 := (tailP_sub (least3 x y z) y).length_le
  have l3 := (tailP_sub (least3 x y z) z).length_le
  rcases least3_or x y z with k | ⟨e, l, k | k | k, hp⟩
  · exact absurd k h
  · have := tailP_lt k; rw [← hp] at this; omega
  · have := tailP_lt k; rw [← hp] at this; omega
  · have := tailP_lt k; rw [← hp] at this; omega
structure PreU (es : List (List V)) (u : List (List V)) (b : Bool) (m : Nat) (i : List Ent × List Ent × List Ent × List (List V)) : Prop where
  rx : Rne i.1
  ry : Rne i.2.1
  rz : Rne i.2.2.1
  at_ : ∃ c f, i.1.length + i.2.1.length + i.2.2.1.length < f ∧ es.drop c = (sidesF f i.1 i.2.1 i.2.2.1).map encS ∧ c ≤ es.length ∧ At u b m c i.2.2.2
theorem rne_tail {p : List UInt8} {x : List Ent} (h : Rne x) : Rne (tailP p x) := fun e he => h e ((tailP_sub p x).subset he)
theorem eqb_encS (p : Bys) (a b c : List Row) : eqbV [V.agg [V.c (C.str p), V.c (C.sl 5 (rcN a) (rcT a) (rows a)), V.c (C.sl 5 (rcN b) (rcT b) (rows b)), V.c (C.sl 5 (rcN c) (rcT c) (rows c))]] (encS ⟨p, a, b, c⟩) = true := by
  cases a <;> cases b <;> cases c <;> simp [encS, rowsV, rcN, rcT, rows, eqbV, V.eqb, eqb_refl]
theorem loopU {es u : List (List V)} {b : Bool} {m : Nat} (hu : u = es.take m) (hm : m ≤ es.length) (hb : b = false → m = es.length) (kn : OBo) (kt : Bool) (xsh : LLC) (n0 : OBo) (t0 : Bool) (n1 : OBo) (t1 : Bool) (n2 : OBo) (t2 : Bool)
    (x y z : List Ent) (r : List (List V)) (hp : PreU es u b m (x, y, z, r)) : p137.fd (Tr.ls 1 (u137 kn kt xsh r b n0 t0 (ents x) n1 t1 (ents y) n2 t2 (ents z))) = some (.out [] [O.box [V.c (C.sl 3 kn kt xsh)], O.yo [] b]) := by
  refine fd_post hct137 (by kernel_rfl) rfl (loops_post (p := p137) hct137 (b := bU137) (ι := List Ent × List Ent × List Ent × List (List V)) (fun i => u137 kn kt xsh i.2.2.2 b n0 t0 (ents i.1) n1 t1 (ents i.2.1) n2 t2 (ents i.2.2.1)) (PreU es u b m) (fun i => i.1.length + i.2.1.length + i.2.2.1.length) _ ?_ (x, y, z, r) hp)
  rintro ⟨x, y, z, r⟩ ⟨rx, ry, rz, c, f, hf, hd, hc, hat⟩
  dsimp only at rx ry rz hf hd hat
  obtain ⟨f, rfl⟩ : ∃ k, f = k + 1 := ⟨f - 1, by omega⟩
  obtain ⟨_, rfl, hA⟩ := loopA kn kt xsh r b n0 t0 x n1 t1 y n2 t2 z
  by_cases hl : least3 x y z = []
  · rw [sidesF_end f hl, List.map_nil] at hd
    have hce : c = es.length := by
      have := congrArg List.length hd
      simp only [List.length_drop, List.length_nil] at this; omega
    obtain ⟨rfl, rfl⟩ := hat.end_ hu hm hce
    refine .inr ⟨xE137 kn kt xsh [] false n0 t0 (ents x) n1 t1 (ents y) n2 t2 (ents z) [], by simp, by rw [k137e, fd_leaf], ?_⟩
    dsimp only
    rw [t137u]
    refine ld_post hct137 (by kernel_rfl) rfl ⟨_, ?_, hA⟩
    rw [hl, t137v, ld_br, ld_leaf]; rfl
  · rw [sidesF_step f rfl hl, List.map_cons] at hd
    have hlt := tails_lt hl
    have hcl : c < es.length := by
      rcases Nat.lt_or_ge c es.length with h | h
      · exact h
      · rw [List.drop_of_length_le h] at hd; cases hd
    have hd2 := hd
    rw [List.drop_eq_getElem_cons hcl] at hd2
    simp only [List.cons.injEq] at hd2
    obtain ⟨_, hr1, _, hr3⟩ := hat.next hu hm hb hcl
    rw [hd2.1] at hr1
    obtain ⟨_, rfl, hB⟩ := loopB kn kt xsh r b n0 t0 x n1 t1 y n2 t2 z (least3 x y z) rx ry rz
    have hyo : yoHd r [V.agg [V.c (C.str (least3 x y z)), V.c (C.sl 5 (rcN (headP (least3 x y z) x)) (rcT (headP (least3 x y z) x)) (rows (headP (least3 x y z) x))), V.c (C.sl 5 (rcN (headP (least3 x y z) y)) (rcT (headP (least3 x y z) y)) (rows (headP (least3 x y z) y))), V.c (C.sl 5 (rcN (headP (least3 x y z) z)) (rcT (headP (least3 x y z) z)) (rows (headP (least3 x y z) z)))]] = true := by
      rw [hr1]; exact eqb_encS _ _ _ _
    have hne : (least3 x y z == []) = false := by
      cases h : least3 x y z with
      | nil => exact absurd h hl
      | cons a s => rfl
    have go : p137.ld bU137 (p137.lts bU137 (u137 kn kt xsh r b n0 t0 (ents x) n1 t1 (ents y) n2 t2 (ents z))) = (if (!yoAns r b) = true then some (R.x (x137wx0 kn kt xsh r b (least3 x y z) (rcN (headP (least3 x y z) x)) (rcT (headP (least3 x y z) x)) (rows (headP (least3 x y z) x)) (rcN (headP (least3 x y z) y)) (rcT (headP (least3 x y z) y)) (rows (headP (least3 x y z) y)) (rcN (headP (least3 x y z) z)) (rcT (headP (least3 x y z) z)) (rows (headP (least3 x y z) z)) ([[C.sl 2 n0 t0 (ents (tailP (least3 x y z) x))], [C.sl 2 n1 t1 (ents (tailP (least3 x y z) y))], [C.sl 2 n2 t2 (ents (tailP (least3 x y z) z))]])))
        else some (R.s (u137 kn kt xsh r.tail b n0 t0 (ents (tailP (least3 x y z) x)) n1 t1 (ents (tailP (least3 x y z) y)) n2 t2 (ents (tailP (least3 x y z) z))))) := by
      rw [t137u]
      refine ld_post hct137 (by kernel_rfl) (by split <;> rfl) ⟨_, ?_, hA⟩
      rw [t137v, ld_br, hne, if_neg (by simp)]
      refine ld_post hct137 (by kernel_rfl) (by split <;> rfl) ⟨_, ?_, hB⟩
      rw [t137w, ld_chk', if_pos hyo, ld_br]
      split <;> rfl
    rcases hr3 with ⟨h1, h2⟩ | ⟨h1, h2, h3⟩
    · refine .inl ⟨(tailP (least3 x y z) x, tailP (least3 x y z) y, tailP (least3 x y z) z, r.tail), ⟨rne_tail rx, rne_tail ry, rne_tail rz, c + 1, f, by dsimp only; omega, hd2.2, hcl, h2⟩, hlt, ?_⟩
      dsimp only
      rw [go, h1]; rfl
    · refine .inr ⟨x137wx0 kn kt xsh r b (least3 x y z) (rcN (headP (least3 x y z) x)) (rcT (headP (least3 x y z) x)) (rows (headP (least3 x y z) x)) (rcN (headP (least3 x y z) y)) (rcT (headP (least3 x y z) y)) (rows (headP (least3 x y z) y)) (rcN (headP (least3 x y z) z)) (rcT (headP (least3 x y z) z)) (rows (headP (least3 x y z) z)) ([[C.sl 2 n0 t0 (ents (tailP (least3 x y z) x))], [C.sl 2 n1 t1 (ents (tailP (least3 x y z) y))], [C.sl 2 n2 t2 (ents (tailP (least3 x y z) z))]]), by simp, ?_, by dsimp only; rw [go, h1]; rfl⟩
      have : p137.fkx 1 (x137wx0 kn kt xsh r b (least3 x y z) (rcN (headP (least3 x y z) x)) (rcT (headP (least3 x y z) x)) (rows (headP (least3 x y z) x)) (rcN (headP (least3 x y z) y)) (rcT (headP (least3 x y z) y)) (rows (headP (least3 x y z) y)) (rcN (headP (least3 x y z) z)) (rcT (headP (least3 x y z) z)) (rows (headP (least3 x y z) z)) ([[C.sl 2 n0 t0 (ents (tailP (least3 x y z) x))], [C.sl 2 n1 t1 (ents (tailP (least3 x y z) y))], [C.sl 2 n2 t2 (ents (tailP (least3 x y z) z))]])) =
          Tr.leaf (R.out [] [O.box [V.c (C.sl 3 kn kt xsh)], O.yo r.tail b]) := by kernel_rfl
      rw [this, fd_leaf, h2]
def slE (t : Nd) : List C := [C.sl 2 none false (ents (entP t))]
def sl0 : List C := [C.sl 2 (some true) true []]
def ysK (ts : List Nd) (k : Nat) : List (List C) := (ts.take k).map slE ++ List.replicate (3 - k) sl0
theorem ysK_set (ts : List Nd) (k : Nat) (hk : k < ts.length) (h3 : k < 3) : (ysK ts k).set k (slE ts[k]) = ysK ts (k + 1) := by
  unfold ysK
  rw [List.take_succ_eq_append_getElem hk]
  obtain ⟨j, hj⟩ : ∃ j, 3 - k = j + 1 := ⟨2 - k, by omega⟩
  have hj2 : 3 - (k + 1) = j := by omega
  rw [hj, hj2, List.replicate_succ, List.map_append, List.append_assoc]
  rw [List.set_append_right _ _ (by simp; omega)]
  have : k - ((ts.take k).map slE).length = 0 := by simp; omega
  rw [this]; rfl
theorem ysK_len (ts : List Nd) (k : Nat) (hk : k ≤ ts.length) (h3 : k ≤ 3) : (ysK ts k).length = 3 := by
  unfold ysK; simp; omega
theorem loop137 (kn : OBo) (kt : Bool) (ts : List Nd) (r : List (List V)) (q : Bool) (h3 : ts.length ≤ 3) (hn : ∀ t ∈ ts, (entL t.kids).length < 1000000000) (R0 : R)
    (h : p137.fd (Tr.ls 1 (s137_1 kn kt r q (encL ts) (ysK ts ts.length))) = some R0) :
    p137.fd (Tr.ls 0 (s137_0 kn kt r q (encL ts) ts.length 0 (encL ts) (ysK ts 0))) = some R0 := by
  refine fd_post hct137 (by kernel_rfl) rfl (list_post (p := p137) hct137 (b := b137_0) ts.length (fun k (_ : Unit) => s137_0 kn kt r q (encL ts) ts.length k (encL ts) (ysK ts k)) (fun _ _ => True) _ ?_ ?_ 0 (Nat.zero_le _) () trivial)
  · intro k _ hk _
    refine .inl ⟨(), trivial, ?_⟩
    have hn' := hn _ (List.getElem_mem hk)
    have hyl := ysK_len ts k (by omega) (by omega)
    have hkl : (k : Int) < 3 := by omega
    have hset := ysK_set ts k hk (by omega)
    have hyk : ((ysK ts k).getD k []).length = 1 := by
      have e : (ysK ts k).getD k [] = sl0 := by
        unfold ysK
        rw [List.getD_eq_getElem?_getD, List.getElem?_append_right (by simp; omega)]
        have : k - ((ts.take k).map slE).length = 0 := by simp; omega
        rw [this]
        obtain ⟨j, hj⟩ : ∃ j, 3 - k = j + 1 := ⟨2 - k, by omega⟩
        rw [hj]; rfl
      rw [e]; rfl
    rw [t137_0]
    have h3k : k < 3 := by omega
    simp only [nd_ok, nd_lab, nd_rows, nd_kids, encL_length, isL_enc, decL_enc, wrap_hd, hd_pos, ld_br, ld_chk', ld_leaf, fd_br, fd_chk', fd_leaf, decide_true, decide_eq_true_eq, if_true, Int.toNat_natCast, Int.natCast_nonneg, Int.ofNat_lt, Int.ofNat_le, Bool.false_eq_true, if_false, bne_iff_ne, beq_iff_eq, ne_eq, not_true_eq_false, not_false_eq_true, Bool.not_eq_true', decide_eq_false_iff_not, reduceCtorEq, rows_length, pcs_length, er_ok, er_ok', ep_ok, ep_ok', dr_er, dp_ep, isRows_rows, isPcs_pcs, toRows_rows, toPcs_pcs, rows_take, rows_drop, pcs_take, pcs_drop, rows_append, pcs_append, ints_length, isInts_ints, toInts_ints, ei_i, ei_ok, mk_headD, ints_take, ints_drop, ints_append, ints_snoc, ints_snoc', List.take_length, Nat.zero_add, Nat.le_refl, er_a, er_b, er_k, er_n, er_s, er_v, ep_a, ep_b, ep_hk, ep_hn, ep_hs, ep_wk, ep_wn, ep_ws, hk, encL_getD hk, hn', hkl, h3k, hyl, hyk]
    rw [← hset, wrap_succ (by omega)]
    rfl
  · intro _ _
    refine ⟨x137_0x0 kn kt r q (encL ts) ts.length ts.length (encL ts) (ysK ts ts.length), by simp, by rw [k137_0x0]; exact h, ?_⟩
    rw [t137_0]
    simp only [nd_ok, nd_lab, nd_rows, nd_kids, encL_length, isL_enc, decL_enc, wrap_hd, hd_pos, ld_br, ld_chk', ld_leaf, fd_br, fd_chk', fd_leaf, decide_true, decide_eq_true_eq, if_true, Int.toNat_natCast, Int.natCast_nonneg, Int.ofNat_lt, Int.ofNat_le, Bool.false_eq_true, if_false, bne_iff_ne, beq_iff_eq, ne_eq, not_true_eq_false, not_false_eq_true, Bool.not_eq_true', decide_eq_false_iff_not, reduceCtorEq, rows_length, pcs_length, er_ok, er_ok', ep_ok, ep_ok', dr_er, dp_ep, isRows_rows, isPcs_pcs, toRows_rows, toPcs_pcs, rows_take, rows_drop, pcs_take, pcs_drop, rows_append, pcs_append, ints_length, isInts_ints, toInts_ints, ei_i, ei_ok, mk_headD, ints_take, ints_drop, ints_append, ints_snoc, ints_snoc', List.take_length, Nat.zero_add, Nat.le_refl, er_a, er_b, er_k, er_n, er_s, er_v, ep_a, ep_b, ep_hk, ep_hn, ep_hs, ep_wk, ep_wn, ep_ws, Int.lt_irrefl]
def S3 (a b c : Nd) : List Sd := sidesP (entP a) (entP b) (entP c)
theorem sq137_3 (kn : OBo) (kt : Bool) (a b c : Nd) : E.seq 137 [.yl 1, .ptr 0 0 0 0] [.box [.c (.sl 3 kn kt (encL [a, b, c]))]] = some ((S3 a b c).map encS) := by
  have : sq 137 [.yl 1, .ptr 0 0 0 0] [.box [.c (.sl 3 kn kt (encL [a, b, c]))]] = some ((S3 a b c).map encS) := by
    simp only [sq, sq137, decL_enc]; rfl
  exact this
theorem f137_3 (kn : OBo) (kt : Bool) (a b c : Nd) (ha : (entL a.kids).length < 1000000000) (hb : (entL b.kids).length < 1000000000) (hc : (entL c.kids).length < 1000000000) (u : List (List V)) (q : Bool) (hw : Want ((S3 a b c).map encS) u q) :
    call E 137 [.yl 1, .ptr 0 0 0 0] ([.box [.c (.sl 3 kn kt (encL [a, b, c]))]] ++ [.yo u q]) = some ([], [.box [.c (.sl 3 kn kt (encL [a, b, c]))], .yo [] q]) := by
  refine call_of (E := E) (sh := sh) (ct := ctOf [(34, s34)]) (na := 2) (m := 2) hct137 rfl rfl rfl rfl rfl rfl ?_
  have ht := t137 kn kt a.enc b.enc c.enc u q
  show p137.fd (p137.ft [.yl 1, .ptr 0 0 0 0] [.box [.c (.sl 3 kn kt [a.enc, b.enc, c.enc])], .yo u q]) = _
  rw [ht]
  obtain ⟨m, hu, hm0, hm1, hm2⟩ := want_take hw
  refine loop137 kn kt [a, b, c] u q (by simp) (by simpa using ⟨ha, hb, hc⟩) _ ?_
  exact loopU hu hm0 hm1 kn kt (encL [a, b, c]) none false none false none false (entP a) (entP b) (entP c) u ⟨(gd_entP a).rne, (gd_entP b).rne, (gd_entP c).rne, 0, _, Nat.lt_succ_self _, rfl, Nat.zero_le _, rfl, Nat.zero_le _, fun h => hm2 h⟩
end Go.Proofs.YtgaabjmbnomimaaDoor
namespace Go.Proofs.YtgaabjmbnomimaaDoor
open Go Go.Ev
section
variable {x y z : List Ent} {S : List Sd} (hs : SP x y z S) (hx : Gd x) (hy : Gd y) (hz : Gd z)
include hs
theorem SP.ex {q : List UInt8} (h : look x q ≠ [] ∨ look y q ≠ [] ∨ look z q ≠ []) : ∃ s ∈ S, s.p = q := by
  rcases h with h | h | h
  · obtain ⟨e, he, hp⟩ := look_ex h; obtain ⟨s, h1, h2⟩ := hs.all e (.inl he); exact ⟨s, h1, h2.trans hp⟩
  · obtain ⟨e, he, hp⟩ := look_ex h; obtain ⟨s, h1, h2⟩ := hs.all e (.inr (.inl he)); exact ⟨s, h1, h2.trans hp⟩
  · obtain ⟨e, he, hp⟩ := look_ex h; obtain ⟨s, h1, h2⟩ := hs.all e (.inr (.inr he)); exact ⟨s, h1, h2.trans hp⟩
theorem SP.bad {s : Sd} (h : s ∈ S) : badS s = bad3 (look x s.p) (look y s.p) (look z s.p) := by rw [badS, hs.a s h, hs.b s h, hs.c s h]
theorem SP.met {s : Sd} (h : s ∈ S) : metS s = met3 (look x s.p) (look y s.p) (look z s.p) := by rw [metS, hs.a s h, hs.b s h, hs.c s h]
theorem look_merge (q : Bys) : look (mkE gM S) q = if bad3 (look x q) (look y q) (look z q) = true then [] else met3 (look x q) (look y q) (look z q) := by
  refine mkE_look (fun s h hp => ?_) fun h => ?_
  · rw [gM, hs.bad h, hs.met h, hp]
    split
    · exact .inr ⟨rfl, rfl⟩
    · exact .inl rfl
  · refine hs.ex ?_
    split at h
    · exact absurd rfl h
    · rw [met3] at h
      split at h
      · exact .inr (.inl h)
      · exact .inr (.inr h)
omit hs in
theorem look_right (hx : Gd x) (q : Bys) : right (look x q) = true := by
  by_cases c : look x q = []
  · rw [c]; rfl
  · obtain ⟨e, he, hp⟩ := look_ex c
    rw [← hp, look_in hx.rise he]; exact hx.right e he
include hx hy hz
theorem SP.path {s : Sd} (h : s ∈ S) : s.p ≠ [] ∧ s.p.length ≤ 24 := by
  refine ⟨hs.ne s h, ?_⟩
  obtain ⟨e, he, hp⟩ := hs.mem s h
  rw [← hp]
  rcases he with he | he | he
  · exact hx.len e he
  · exact hy.len e he
  · exact hz.len e he
theorem SP.gright {s : Sd} (h : s ∈ S) {l : List Row} (k : gM s = some l) : right l = true := by
  rw [gM] at k
  split at k
  · cases k
  · simp only [Option.some.injEq] at k
    rw [← k, hs.met h, met3]
    split
    · exact look_right hy _
    · exact look_right hz _
theorem merge_ok : okR (putsF gM nd0 S) = true ∧ entR (putsF gM nd0 S) = mkE gM S := by
  have := putsF_ent (g := gM) (S := S) (t := nd0) nd0_ok hs.rise (fun s h => hs.path hx hy hz h) (fun s h l k => hs.gright hx hy hz h k) (by intro e he; cases he)
  exact ⟨this.1, this.2⟩
end
def mergeT (a b c : Nd) : Nd := putsF gM nd0 (sidesP (entP a) (entP b) (entP c))
def badL (S : List Sd) : List (List UInt8) := (S.filter badS).map Sd.p
def badT (a b c : Nd) : List (List UInt8) := badL (sidesP (entP a) (entP b) (entP c))
theorem spT (a b c : Nd) : SP (entP a) (entP b) (entP c) (sidesP (entP a) (entP b) (entP c)) := sidesP_spec (gd_entP a) (gd_entP b) (gd_entP c)
theorem mergeT_ok (a b c : Nd) : okR (mergeT a b c) = true := (merge_ok (spT a b c) (gd_entP a) (gd_entP b) (gd_entP c)).1
theorem mergeT_get (a b c : Nd) (q : Bys) : getR (mergeT a b c) q = if bad3 (getR a q) (getR b q) (getR c q) = true then [] else met3 (getR a q) (getR b q) (getR c q) := by
  obtain ⟨h1, h2⟩ := merge_ok (spT a b c) (gd_entP a) (gd_entP b) (gd_entP c)
  rw [getR_P, getR_P, getR_P, getR_P]
  refine Eq.trans ?_ (look_merge (spT a b c) q)
  rw [← h2, ← entP_R h1]; rfl
theorem tree_ext {t u : Nd} (h : okR t = true) (k : okR u = true) (e : ∀ q, getR t q = getR u q) : t = u := by
  refine entP_inj h k ?_
  have h1 := gd_ent h; have h2 := gd_ent k
  refine rise_ext h1.rise h2.rise h1.rne h2.rne fun q => ?_
  have := e q
  rw [getR_P, getR_P, entP_R h, entP_R k] at this; exact this
theorem badT_mem (a b c : Nd) (q : Bys) : q ∈ badT a b c ↔ bad3 (getR a q) (getR b q) (getR c q) = true := by
  have hs := spT a b c
  rw [getR_P, getR_P, getR_P]
  constructor
  · intro h
    obtain ⟨s, h1, rfl⟩ := List.mem_map.1 h
    obtain ⟨h1, h2⟩ := List.mem_filter.1 h1
    rw [hs.bad h1] at h2; exact h2
  · intro h
    have hne : look (entP a) q ≠ [] ∨ look (entP b) q ≠ [] ∨ look (entP c) q ≠ [] := by
      by_cases c1 : look (entP a) q = []
      · by_cases c2 : look (entP b) q = []
        · rw [c1, c2] at h; simp [bad3] at h
        · exact .inr (.inl c2)
      · exact .inl c1
    obtain ⟨s, h1, rfl⟩ := hs.ex hne
    exact List.mem_map_of_mem (List.mem_filter.2 ⟨h1, by rw [hs.bad h1]; exact h⟩)
theorem nil_mem {l : List (List UInt8)} (h : ∀ q, q ∉ l) : l = [] := List.eq_nil_iff_forall_not_mem.2 h
theorem bad_base (a c : Nd) : badT a a c = [] := nil_mem fun q h => by rw [badT_mem] at h; simp [bad3] at h
theorem bad_same (a b : Nd) : badT a b b = [] := nil_mem fun q h => by rw [badT_mem] at h; simp [bad3] at h
theorem merge_base {a c : Nd} (h : okR c = true) : mergeT a a c = c := tree_ext (mergeT_ok _ _ _) h fun q => by
  rw [mergeT_get]
  have hb : bad3 (getR a q) (getR a q) (getR c q) = false := by simp [bad3]
  simp only [hb, met3, or_self, Bool.false_eq_true, if_false]
  split
  · assumption
  · rfl
theorem merge_same {a b : Nd} (h : okR b = true) : mergeT a b b = b := tree_ext (mergeT_ok _ _ _) h fun q => by
  rw [mergeT_get]; simp [bad3, met3]
end Go.Proofs.YtgaabjmbnomimaaDoor
namespace Go.Proofs.YtgaabjmbnomimaaDoor
open Go Go.Ev
theorem f138a (p : Bys) (n0 : OBo) (t0 : Bool) (x0 : LLC) (n1 : OBo) (t1 : Bool) (b : List Row) (n2 : OBo) (t2 : Bool) (c : List Row) (hb : b.length ≤ 9223372036854775807) :
    call E 138 [V.i 1, V.i 2, .ptr 0 0 0 0] [.box [.c (.str p), .c (.sl 5 n0 t0 x0), .c (.sl 5 n1 t1 (rows b)), .c (.sl 5 n2 t2 (rows c))]] = some ([V.b (decide (b = c))], [.box [.c (.str p), .c (.sl 5 n0 t0 x0), .c (.sl 5 n1 t1 (rows b)), .c (.sl 5 n2 t2 (rows c))]]) := by
  refine call_of (E := E) (sh := sh) (ct := ctOf [(98, s98)]) (na := 3) (m := 1) (ctOf_cons s98_ok ctOf_nil) rfl rfl rfl rfl rfl rfl ?_
  rw [t138a]
  simp only [ld_br, ld_chk', ld_leaf, fd_br, fd_chk', fd_leaf, decide_true, decide_eq_true_eq, if_true, Int.toNat_natCast, Int.natCast_nonneg, Int.ofNat_lt, Int.ofNat_le, Bool.false_eq_true, if_false, bne_iff_ne, beq_iff_eq, ne_eq, not_true_eq_false, not_false_eq_true, Bool.not_eq_true', decide_eq_false_iff_not, reduceCtorEq, rows_length, pcs_length, er_ok, er_ok', ep_ok, ep_ok', dr_er, dp_ep, isRows_rows, isPcs_pcs, toRows_rows, toPcs_pcs, rows_take, rows_drop, pcs_take, pcs_drop, rows_append, pcs_append, ints_length, isInts_ints, toInts_ints, ei_i, ei_ok, mk_headD, ints_take, ints_drop, ints_append, ints_snoc, ints_snoc', List.take_length, Nat.zero_add, Nat.le_refl, er_a, er_b, er_k, er_n, er_s, er_v, ep_a, ep_b, ep_hk, ep_hn, ep_hs, ep_wk, ep_wn, ep_ws, hb]
theorem f138b (p : Bys) (n0 : OBo) (t0 : Bool) (a : List Row) (n1 : OBo) (t1 : Bool) (x1 : LLC) (n2 : OBo) (t2 : Bool) (c : List Row) (hb : a.length ≤ 9223372036854775807) :
    call E 138 [V.i 0, V.i 2, .ptr 0 0 0 0] [.box [.c (.str p), .c (.sl 5 n0 t0 (rows a)), .c (.sl 5 n1 t1 x1), .c (.sl 5 n2 t2 (rows c))]] = some ([V.b (decide (a = c))], [.box [.c (.str p), .c (.sl 5 n0 t0 (rows a)), .c (.sl 5 n1 t1 x1), .c (.sl 5 n2 t2 (rows c))]]) := by
  refine call_of (E := E) (sh := sh) (ct := ctOf [(98, s98)]) (na := 3) (m := 1) (ctOf_cons s98_ok ctOf_nil) rfl rfl rfl rfl rfl rfl ?_
  rw [t138b]
  simp only [ld_br, ld_chk', ld_leaf, fd_br, fd_chk', fd_leaf, decide_true, decide_eq_true_eq, if_true, Int.toNat_natCast, Int.natCast_nonneg, Int.ofNat_lt, Int.ofNat_le, Bool.false_eq_true, if_false, bne_iff_ne, beq_iff_eq, ne_eq, not_true_eq_false, not_false_eq_true, Bool.not_eq_true', decide_eq_false_iff_not, reduceCtorEq, rows_length, pcs_length, er_ok, er_ok', ep_ok, ep_ok', dr_er, dp_ep, isRows_rows, isPcs_pcs, toRows_rows, toPcs_pcs, rows_take, rows_drop, pcs_take, pcs_drop, rows_append, pcs_append, ints_length, isInts_ints, toInts_ints, ei_i, ei_ok, mk_headD, ints_take, ints_drop, ints_append, ints_snoc, ints_snoc', List.take_length, Nat.zero_add, Nat.le_refl, er_a, er_b, er_k, er_n, er_s, er_v, ep_a, ep_b, ep_hk, ep_hn, ep_hs, ep_wk, ep_wn, ep_ws, hb]
theorem f138c (p : Bys) (n0 : OBo) (t0 : Bool) (a : List Row) (n1 : OBo) (t1 : Bool) (b : List Row) (n2 : OBo) (t2 : Bool) (x2 : LLC) (hb : a.length ≤ 9223372036854775807) :
    call E 138 [V.i 0, V.i 1, .ptr 0 0 0 0] [.box [.c (.str p), .c (.sl 5 n0 t0 (rows a)), .c (.sl 5 n1 t1 (rows b)), .c (.sl 5 n2 t2 x2)]] = some ([V.b (decide (a = b))], [.box [.c (.str p), .c (.sl 5 n0 t0 (rows a)), .c (.sl 5 n1 t1 (rows b)), .c (.sl 5 n2 t2 x2)]]) := by
  refine call_of (E := E) (sh := sh) (ct := ctOf [(98, s98)]) (na := 3) (m := 1) (ctOf_cons s98_ok ctOf_nil) rfl rfl rfl rfl rfl rfl ?_
  rw [t138c]
  simp only [ld_br, ld_chk', ld_leaf, fd_br, fd_chk', fd_leaf, decide_true, decide_eq_true_eq, if_true, Int.toNat_natCast, Int.natCast_nonneg, Int.ofNat_lt, Int.ofNat_le, Bool.false_eq_true, if_false, bne_iff_ne, beq_iff_eq, ne_eq, not_true_eq_false, not_false_eq_true, Bool.not_eq_true', decide_eq_false_iff_not, reduceCtorEq, rows_length, pcs_length, er_ok, er_ok', ep_ok, ep_ok', dr_er, dp_ep, isRows_rows, isPcs_pcs, toRows_rows, toPcs_pcs, rows_take, rows_drop, pcs_take, pcs_drop, rows_append, pcs_append, ints_length, isInts_ints, toInts_ints, ei_i, ei_ok, mk_headD, ints_take, ints_drop, ints_append, ints_snoc, ints_snoc', List.take_length, Nat.zero_add, Nat.le_refl, er_a, er_b, er_k, er_n, er_s, er_v, ep_a, ep_b, ep_hk, ep_hn, ep_hs, ep_wk, ep_wn, ep_ws, hb]
theorem s138_ok : CSpecOk E 138 s138 := by
  intro a h cs vals h' he hc
  unfold s138 at he
  split at he <;> simp only [Option.some.injEq, Prod.mk.injEq, reduceCtorEq] at he
  rename_i i k p n0 t0 x0 n1 t1 x1 n2 t2 x2
  obtain ⟨rfl, rfl, rfl⟩ := he
  simp only [allT, Bool.and_true, Bool.and_eq_true, decide_eq_true_eq] at hc
  obtain ⟨h1, h2, h3, h4, h5, h6⟩ := hc
  obtain ⟨r0, rfl⟩ := rows_ex h2
  obtain ⟨r1, rfl⟩ := rows_ex h3
  obtain ⟨r2, rfl⟩ := rows_ex h4
  rw [rows_length] at h5 h6
  rcases h1 with ⟨rfl, rfl⟩ | ⟨rfl, rfl⟩ | ⟨rfl, rfl⟩
  · have := f138a p n0 t0 (rows r0) n1 t1 r1 n2 t2 r2 h6
    rw [this]; simp [pick3, toRows_rows]
  · have := f138b p n0 t0 r0 n1 t1 (rows r1) n2 t2 r2 h5
    rw [this]; simp [pick3, toRows_rows]
  · have := f138c p n0 t0 r0 n1 t1 r1 n2 t2 (rows r2) h5
    rw [this]; simp [pick3, toRows_rows]
def metR (a b c : List Row) : List Row := if bad3 a b c = true then [] else met3 a b c
theorem f95 (p : Bys) (n0 : OBo) (t0 : Bool) (a : List Row) (n1 : OBo) (t1 : Bool) (b : List Row) (n2 : OBo) (t2 : Bool) (c : List Row) (ha : a.length ≤ 9223372036854775807) (hb : b.length ≤ 9223372036854775807) :
    call E 95 [.agg [.c (.str p), .c (.sl 5 n0 t0 (rows a)), .c (.sl 5 n1 t1 (rows b)), .c (.sl 5 n2 t2 (rows c))]] [] = some ([.c (.sl 5 none false (rows (metR a b c))), V.b (!bad3 a b c)], []) := by
  refine call_of (E := E) (sh := sh) (ct := ctOf [(138, s138)]) (na := 1) (m := 0) (ctOf_cons s138_ok ctOf_nil) rfl rfl rfl rfl rfl rfl ?_
  rw [t95]
  have p1 : pick3 1 (rows a) (rows b) (rows c) = rows b := rfl
  have p2 : pick3 2 (rows a) (rows b) (rows c) = rows c := rfl
  have p0 : pick3 0 (rows a) (rows b) (rows c) = rows a := rfl
  simp only [ld_br, ld_chk', ld_leaf, fd_br, fd_chk', fd_leaf, decide_true, decide_eq_true_eq, if_true, Int.toNat_natCast, Int.natCast_nonneg, Int.ofNat_lt, Int.ofNat_le, Bool.false_eq_true, if_false, bne_iff_ne, beq_iff_eq, ne_eq, not_true_eq_false, not_false_eq_true, Bool.not_eq_true', decide_eq_false_iff_not, reduceCtorEq, rows_length, pcs_length, er_ok, er_ok', ep_ok, ep_ok', dr_er, dp_ep, isRows_rows, isPcs_pcs, toRows_rows, toPcs_pcs, rows_take, rows_drop, pcs_take, pcs_drop, rows_append, pcs_append, ints_length, isInts_ints, toInts_ints, ei_i, ei_ok, mk_headD, ints_take, ints_drop, ints_append, ints_snoc, ints_snoc', List.take_length, Nat.zero_add, Nat.le_refl, er_a, er_b, er_k, er_n, er_s, er_v, ep_a, ep_b, ep_hk, ep_hn, ep_hs, ep_wk, ep_wn, ep_ws, p0, p1, p2, ha, hb]
  unfold metR bad3 met3
  by_cases h1 : b = c
  · simp [h1]
  · by_cases h2 : a = c
    · simp [h1, h2]
    · by_cases h3 : a = b
      · simp [h1, h2, h3]
      · simp [h1, h2, h3, rows]
def s95 : CSpec := fun a h => match a, h with
  | [.agg [.c (.str p), .c (.sl 5 n0 t0 x0), .c (.sl 5 n1 t1 x1), .c (.sl 5 n2 t2 x2)]], [] => some ([isRows x0, isRows x1, isRows x2, decide (x0.length ≤ 9223372036854775807), decide (x1.length ≤ 9223372036854775807)],
      [.c (.sl 5 none false (rows (metR (toRows x0) (toRows x1) (toRows x2)))), V.b (!bad3 (toRows x0) (toRows x1) (toRows x2))], [])
  | _, _ => none
theorem s95_ok : CSpecOk E 95 s95 := by
  intro a h cs vals h' he hc
  unfold s95 at he
  split at he <;> simp only [Option.some.injEq, Prod.mk.injEq, reduceCtorEq] at he
  rename_i p n0 t0 x0 n1 t1 x1 n2 t2 x2
  obtain ⟨rfl, rfl, rfl⟩ := he
  simp only [allT, Bool.and_true, Bool.and_eq_true, decide_eq_true_eq] at hc
  obtain ⟨h1, h2, h3, h4, h5⟩ := hc
  obtain ⟨a, rfl⟩ := rows_ex h1
  obtain ⟨b, rfl⟩ := rows_ex h2
  obtain ⟨c, rfl⟩ := rows_ex h3
  rw [rows_length] at h4 h5
  simp only [toRows_rows]
  exact f95 p n0 t0 a n1 t1 b n2 t2 c h4 h5
theorem f136 (s : Bys) (rn : OBo) (rt : Bool) (rs : List Row) (kn : OBo) (kt : Bool) (ks : List Nd) :
    call E 136 [.agg [.c (.str s), .c (.sl 5 rn rt (rows rs)), .c (.sl 3 kn kt (encL ks))]] [] = some ([V.b (!okR (.node s rs ks))], []) := by
  refine call_of (E := E) (sh := sh) (ct := ctOf [(28, s28)]) (na := 1) (m := 0) (ctOf_cons s28_ok ctOf_nil) rfl rfl rfl rfl rfl rfl ?_
  rw [t136]
  simp only [nd_ok, nd_lab, nd_rows, nd_kids, encL_length, isL_enc, decL_enc, wrap_hd, hd_pos, ld_br, ld_chk', ld_leaf, fd_br, fd_chk', fd_leaf, decide_true, decide_eq_true_eq, if_true, Int.toNat_natCast, Int.natCast_nonneg, Int.ofNat_lt, Int.ofNat_le, Bool.false_eq_true, if_false, bne_iff_ne, beq_iff_eq, ne_eq, not_true_eq_false, not_false_eq_true, Bool.not_eq_true', decide_eq_false_iff_not, reduceCtorEq, rows_length, pcs_length, er_ok, er_ok', ep_ok, ep_ok', dr_er, dp_ep, isRows_rows, isPcs_pcs, toRows_rows, toPcs_pcs, rows_take, rows_drop, pcs_take, pcs_drop, rows_append, pcs_append, ints_length, isInts_ints, toInts_ints, ei_i, ei_ok, mk_headD, ints_take, ints_drop, ints_append, ints_snoc, ints_snoc', List.take_length, Nat.zero_add, Nat.le_refl, er_a, er_b, er_k, er_n, er_s, er_v, ep_a, ep_b, ep_hk, ep_hn, ep_hs, ep_wk, ep_wn, ep_ws, checkT_ne]
theorem s136_ok : CSpecOk E 136 s136 := by
  intro a h cs vals h' he hc
  unfold s136 at he
  split at he <;> simp only [Option.some.injEq, Prod.mk.injEq, reduceCtorEq] at he
  rename_i s rn rt xs kn kt ys
  obtain ⟨rfl, rfl, rfl⟩ := he
  simp only [allT, Bool.and_true, Bool.and_eq_true, decide_eq_true_eq] at hc
  obtain ⟨h1, h2⟩ := hc
  obtain ⟨rs, rfl⟩ := rows_ex h1
  obtain ⟨ks, rfl⟩ := isL_ex h2
  simp only [toRows_rows, decL_enc] at *
  exact f136 s rn rt rs kn kt ks
theorem idxT_drop (f : Nd → Bool) (l : List Nd) (k j : Nat) (hk : k < l.length) : idxT f (l.drop k) j = if f l[k] = true then (j : Int) else idxT f (l.drop (k + 1)) (j + 1) := by
  rw [List.drop_eq_getElem_cons hk, idxT]
theorem f142 (nl : OBo) (tt : Bool) (ks : List Nd) (hk : ks.length ≤ 9223372036854775807) : call E 142 [.c (.sl 3 nl tt (encL ks)), .fn 136 []] [] = some ([V.i (idxT (fun t => !okR t) ks 0)], []) := by
  refine call_of (E := E) (sh := sh) (ct := ctOf [(136, s136)]) (na := 2) (m := 0) (ctOf_cons s136_ok ctOf_nil) rfl rfl rfl rfl rfl rfl ?_
  rw [t142, encL_length]
  refine fd_post (ctOf_cons s136_ok ctOf_nil) (by kernel_rfl) rfl (list_post (p := p142) (ctOf_cons s136_ok ctOf_nil) (b := b142_0) ks.length (fun k (_ : Unit) => s142_0 nl tt (encL ks) ks.length k) (fun k _ => idxT (fun t => !okR t) (ks.drop k) k = idxT (fun t => !okR t) ks 0) _ ?_ ?_ 0 (Nat.zero_le _) () rfl)
  · intro k _ hk2 hi
    rw [idxT_drop _ _ _ _ hk2] at hi
    have e : p142.ld b142_0 (p142.lts b142_0 (s142_0 nl tt (encL ks) ks.length k)) = (if (!okR ks[k]) = true then some (R.x (x142_0x0 k)) else some (R.s (s142_0 nl tt (encL ks) ks.length ((k + 1 : Nat) : Int)))) := by
      rw [t142_0]
      simp only [nd_ok, nd_lab, nd_rows, nd_kids, encL_length, isL_enc, decL_enc, wrap_hd, hd_pos, ld_br, ld_chk', ld_leaf, fd_br, fd_chk', fd_leaf, decide_true, decide_eq_true_eq, if_true, Int.toNat_natCast, Int.natCast_nonneg, Int.ofNat_lt, Int.ofNat_le, Bool.false_eq_true, if_false, bne_iff_ne, beq_iff_eq, ne_eq, not_true_eq_false, not_false_eq_true, Bool.not_eq_true', decide_eq_false_iff_not, reduceCtorEq, rows_length, pcs_length, er_ok, er_ok', ep_ok, ep_ok', dr_er, dp_ep, isRows_rows, isPcs_pcs, toRows_rows, toPcs_pcs, rows_take, rows_drop, pcs_take, pcs_drop, rows_append, pcs_append, ints_length, isInts_ints, toInts_ints, ei_i, ei_ok, mk_headD, ints_take, ints_drop, ints_append, ints_snoc, ints_snoc', List.take_length, Nat.zero_add, Nat.le_refl, er_a, er_b, er_k, er_n, er_s, er_v, ep_a, ep_b, ep_hk, ep_hn, ep_hs, ep_wk, ep_wn, ep_ws, hk2, encL_getD hk2, Nd.eta, wrap_succ (show k < 9223372036854775807 by omega)]
    cases c : okR ks[k] with
    | true =>
      rw [c] at hi e
      exact .inl ⟨(), by simpa using hi, by rw [e]; rfl⟩
    | false =>
      rw [c] at hi e
      refine .inr ⟨x142_0x0 k, by simp, ?_, by rw [e]; rfl⟩
      rw [k142_0x0, fd_leaf, ← hi]; rfl
  · intro _ hi
    rw [List.drop_length] at hi
    refine ⟨x142_0x1 nl tt (encL ks) ks.length ks.length, by simp, ?_, ?_⟩
    · rw [k142_0x1, fd_leaf, ← hi]; rfl
    · rw [t142_0]; simp only [nd_ok, nd_lab, nd_rows, nd_kids, encL_length, isL_enc, decL_enc, wrap_hd, hd_pos, ld_br, ld_chk', ld_leaf, fd_br, fd_chk', fd_leaf, decide_true, decide_eq_true_eq, if_true, Int.toNat_natCast, Int.natCast_nonneg, Int.ofNat_lt, Int.ofNat_le, Bool.false_eq_true, if_false, bne_iff_ne, beq_iff_eq, ne_eq, not_true_eq_false, not_false_eq_true, Bool.not_eq_true', decide_eq_false_iff_not, reduceCtorEq, rows_length, pcs_length, er_ok, er_ok', ep_ok, ep_ok', dr_er, dp_ep, isRows_rows, isPcs_pcs, toRows_rows, toPcs_pcs, rows_take, rows_drop, pcs_take, pcs_drop, rows_append, pcs_append, ints_length, isInts_ints, toInts_ints, ei_i, ei_ok, mk_headD, ints_take, ints_drop, ints_append, ints_snoc, ints_snoc', List.take_length, Nat.zero_add, Nat.le_refl, er_a, er_b, er_k, er_n, er_s, er_v, ep_a, ep_b, ep_hk, ep_hn, ep_hs, ep_wk, ep_wn, ep_ws, Int.lt_irrefl]
theorem s142_ok : CSpecOk E 142 s142 := by
  intro a h cs vals h' he hc
  unfold s142 at he
  split at he <;> simp only [Option.some.injEq, Prod.mk.injEq, reduceCtorEq] at he
  rename_i nl tt ys
  obtain ⟨rfl, rfl, rfl⟩ := he
  simp only [allT, Bool.and_true, Bool.and_eq_true, decide_eq_true_eq] at hc
  obtain ⟨h1, h2⟩ := hc
  obtain ⟨ks, rfl⟩ := isL_ex h1
  rw [encL_length] at h2
  simp only [decL_enc] at *
  exact f142 nl tt ks h2
theorem idxT_all (l : List Nd) (j : Nat) : decide (0 ≤ idxT (fun t => !okR t) l j) = !l.all okR := by
  induction l generalizing j with
  | nil => rfl
  | cons t r ih =>
    rw [idxT, List.all_cons]
    cases c : okR t with
    | true => simpa using ih (j + 1)
    | false => simp
theorem f104 (nl : OBo) (tt : Bool) (ks : List Nd) (hk : ks.length ≤ 9223372036854775807) : call E 104 [.c (.sl 3 nl tt (encL ks)), .fn 136 []] [] = some ([V.b (!ks.all okR)], []) := by
  refine call_of (E := E) (sh := sh) (ct := ctOf [(142, s142)]) (na := 2) (m := 0) (ctOf_cons s142_ok ctOf_nil) rfl rfl rfl rfl rfl rfl ?_
  rw [t104]
  simp only [nd_ok, nd_lab, nd_rows, nd_kids, encL_length, isL_enc, decL_enc, wrap_hd, hd_pos, ld_br, ld_chk', ld_leaf, fd_br, fd_chk', fd_leaf, decide_true, decide_eq_true_eq, if_true, Int.toNat_natCast, Int.natCast_nonneg, Int.ofNat_lt, Int.ofNat_le, Bool.false_eq_true, if_false, bne_iff_ne, beq_iff_eq, ne_eq, not_true_eq_false, not_false_eq_true, Bool.not_eq_true', decide_eq_false_iff_not, reduceCtorEq, rows_length, pcs_length, er_ok, er_ok', ep_ok, ep_ok', dr_er, dp_ep, isRows_rows, isPcs_pcs, toRows_rows, toPcs_pcs, rows_take, rows_drop, pcs_take, pcs_drop, rows_append, pcs_append, ints_length, isInts_ints, toInts_ints, ei_i, ei_ok, mk_headD, ints_take, ints_drop, ints_append, ints_snoc, ints_snoc', List.take_length, Nat.zero_add, Nat.le_refl, er_a, er_b, er_k, er_n, er_s, er_v, ep_a, ep_b, ep_hk, ep_hn, ep_hs, ep_wk, ep_wn, ep_ws, hk, idxT_all]
theorem s104_ok : CSpecOk E 104 s104 := by
  intro a h cs vals h' he hc
  unfold s104 at he
  split at he <;> simp only [Option.some.injEq, Prod.mk.injEq, reduceCtorEq] at he
  rename_i nl tt ys
  obtain ⟨rfl, rfl, rfl⟩ := he
  simp only [allT, Bool.and_true, Bool.and_eq_true, decide_eq_true_eq] at hc
  obtain ⟨h1, h2⟩ := hc
  obtain ⟨ks, rfl⟩ := isL_ex h1
  rw [encL_length] at h2
  simp only [decL_enc] at *
  exact f104 nl tt ks h2
theorem f93 (nl : OBo) (tt : Bool) (ks : List Nd) (hk : ks.length ≤ 9223372036854775807) : call E 93 [.c (.sl 3 nl tt (encL ks))] [] = some ([V.b (ks.all okR)], []) := by
  refine call_of (E := E) (sh := sh) (ct := ctOf [(104, s104)]) (na := 1) (m := 0) (ctOf_cons s104_ok ctOf_nil) rfl rfl rfl rfl rfl rfl ?_
  rw [t93]
  simp only [nd_ok, nd_lab, nd_rows, nd_kids, encL_length, isL_enc, decL_enc, wrap_hd, hd_pos, ld_br, ld_chk', ld_leaf, fd_br, fd_chk', fd_leaf, decide_true, decide_eq_true_eq, if_true, Int.toNat_natCast, Int.natCast_nonneg, Int.ofNat_lt, Int.ofNat_le, Bool.false_eq_true, if_false, bne_iff_ne, beq_iff_eq, ne_eq, not_true_eq_false, not_false_eq_true, Bool.not_eq_true', decide_eq_false_iff_not, reduceCtorEq, rows_length, pcs_length, er_ok, er_ok', ep_ok, ep_ok', dr_er, dp_ep, isRows_rows, isPcs_pcs, toRows_rows, toPcs_pcs, rows_take, rows_drop, pcs_take, pcs_drop, rows_append, pcs_append, ints_length, isInts_ints, toInts_ints, ei_i, ei_ok, mk_headD, ints_take, ints_drop, ints_append, ints_snoc, ints_snoc', List.take_length, Nat.zero_add, Nat.le_refl, er_a, er_b, er_k, er_n, er_s, er_v, ep_a, ep_b, ep_hk, ep_hn, ep_hs, ep_wk, ep_wn, ep_ws, hk, Bool.not_not]
def s93 : CSpec := fun a h => match a, h with
  | [.c (.sl 3 nl tt ys)], [] => some ([isL ys, decide (ys.length ≤ 9223372036854775807)], [V.b ((decL ys).all okR)], [])
  | _, _ => none
theorem s93_ok : CSpecOk E 93 s93 := by
  intro a h cs vals h' he hc
  unfold s93 at he
  split at he <;> simp only [Option.some.injEq, Prod.mk.injEq, reduceCtorEq] at he
  rename_i nl tt ys
  obtain ⟨rfl, rfl, rfl⟩ := he
  simp only [allT, Bool.and_true, Bool.and_eq_true, decide_eq_true_eq] at hc
  obtain ⟨h1, h2⟩ := hc
  obtain ⟨ks, rfl⟩ := isL_ex h1
  rw [encL_length] at h2
  simp only [decL_enc] at *
  exact f93 nl tt ks h2
theorem f94 (nl : OBo) (tt : Bool) (ys : LLC) : call E 94 [.c (.sl 3 nl tt ys)] [] = some ([.fn 137 [.ptr 0 0 0 0]], [.box [.c (.sl 3 nl tt ys)]]) := by
  refine call_of (E := E) (sh := sh) (ct := ctOf []) (na := 1) (m := 0) ctOf_nil rfl rfl rfl rfl rfl rfl ?_
  rw [t94, fd_leaf]
def s94 : CSpec := fun a h => match a, h with
  | [.c (.sl 3 nl tt ys)], [] => some ([], [.fn 137 [.ptr 0 0 0 0]], [.box [.c (.sl 3 nl tt ys)]])
  | _, _ => none
theorem s94_ok : CSpecOk E 94 s94 := by
  intro a h cs vals h' he hc
  unfold s94 at he
  split at he <;> simp only [Option.some.injEq, Prod.mk.injEq, reduceCtorEq] at he
  obtain ⟨rfl, rfl, rfl⟩ := he
  exact f94 _ _ _
end Go.Proofs.YtgaabjmbnomimaaDoor
namespace Go.Proofs.YtgaabjmbnomimaaDoor
open Go Go.Ev
-- cse
noncomputable abbrev p43 : Par := par E sh (ctOf [(93, s93), (94, s94), (95, s95), (25, s25)]) 43 3 0
abbrev s43_0 (nl7 : OBo) (t7 : Bool) (xs7 : LLC) (i8 : Int) (sh0 : Bys) (nlh0 : OBo) (th0 : Bool) (xsh0 : LLC) (nlh0_1 : OBo) (th0_1 : Bool) (xsh0_1 : LLC) (sh1 : Bys) (nlh1 : OBo) (th1 : Bool) (xsh1 : LLC) (nlh1_1 : OBo) (th1_1 : Bool) (xsh1_1 : LLC) (ys2_1 : LLC) (nh3 : Nat) (nlh4 : OBo) (th4 : Bool) (xsh4 : LLC) : Fr × Hp := ([(6, V.ptr 0 0 0 0), (7, V.c (C.sl 1 nl7 t7 xs7)), (8, V.c (C.int IntKind.i64 i8)), (9, V.ptr 1 0 0 0), (10, V.ptr 3 0 0 0), (25, V.fn 137 [V.ptr 4 0 0 0])], [O.box [V.c (C.str sh0), V.c (C.sl 5 nlh0 th0 xsh0), V.c (C.sl 3 nlh0_1 th0_1 xsh0_1)], O.box [V.c (C.str sh1), V.c (C.sl 5 nlh1 th1 xsh1), V.c (C.sl 3 nlh1_1 th1_1 xsh1_1)], O.mem 1 0 ys2_1, O.box [V.buf 2 0 0 nh3], O.box [V.c (C.sl 3 nlh4 th4 xsh4)]])
noncomputable abbrev b43_0 : Code := loopAt (codeOf E (43)) 0
abbrev g43_0 (nl7 : OBo) (t7 : Bool) (xs7 : LLC) (i8 : Int) (sh0 : Bys) (nlh0 : OBo) (th0 : Bool) (xsh0 : LLC) (nlh0_1 : OBo) (th0_1 : Bool) (xsh0_1 : LLC) (sh1 : Bys) (nlh1 : OBo) (th1 : Bool) (xsh1 : LLC) (nlh1_1 : OBo) (th1_1 : Bool) (xsh1_1 : LLC) (ys2_1 : LLC) (nh3 : Nat) : Fr × Hp := ([(6, V.ptr 0 0 0 0), (7, V.c (C.sl 1 nl7 t7 xs7)), (8, V.c (C.int IntKind.i64 i8)), (9, V.ptr 1 0 0 0), (10, V.ptr 3 0 0 0), (25, V.fn 137 [V.ptr 4 0 0 0])], [O.box [V.c (C.str sh0), V.c (C.sl 5 nlh0 th0 xsh0), V.c (C.sl 3 nlh0_1 th0_1 xsh0_1)], O.box [V.c (C.str sh1), V.c (C.sl 5 nlh1 th1 xsh1), V.c (C.sl 3 nlh1_1 th1_1 xsh1_1)], O.mem 1 0 ys2_1, O.box [V.buf 2 0 0 nh3], O.gone])
abbrev x43_0n (nl7 : OBo) (t7 : Bool) (xs7 : LLC) (i8 : Int) (sh0 : Bys) (nlh0 : OBo) (th0 : Bool) (xsh0 : LLC) (nlh0_1 : OBo) (th0_1 : Bool) (xsh0_1 : LLC) (sh1 : Bys) (nlh1 : OBo) (th1 : Bool) (xsh1 : LLC) (nlh1_1 : OBo) (th1_1 : Bool) (xsh1_1 : LLC) (ys2_1 : LLC) (nh3 : Nat) : Ex × Fr × Hp := (Ex.nrm, [(6, V.ptr 0 0 0 0), (7, V.c (C.sl 1 nl7 t7 xs7)), (8, V.c (C.int IntKind.i64 i8)), (9, V.ptr 1 0 0 0), (10, V.ptr 3 0 0 0), (25, V.fn 137 [V.ptr 4 0 0 0])], [O.box [V.c (C.str sh0), V.c (C.sl 5 nlh0 th0 xsh0), V.c (C.sl 3 nlh0_1 th0_1 xsh0_1)], O.box [V.c (C.str sh1), V.c (C.sl 5 nlh1 th1 xsh1), V.c (C.sl 3 nlh1_1 th1_1 xsh1_1)], O.mem 1 0 ys2_1, O.box [V.buf 2 0 0 nh3], O.gone])
theorem t43_0 (nl7 : OBo) (t7 : Bool) (xs7 : LLC) (i8 : Int) (sh0 : Bys) (nlh0 : OBo) (th0 : Bool) (xsh0 : LLC) (nlh0_1 : OBo) (th0_1 : Bool) (xsh0_1 : LLC) (sh1 : Bys) (nlh1 : OBo) (th1 : Bool) (xsh1 : LLC) (nlh1_1 : OBo) (th1_1 : Bool) (xsh1_1 : LLC) (ys2_1 : LLC) (nh3 : Nat) (p : Bys) (n0 : OBo) (t0 : Bool) (z0 : LLC) (n1 : OBo) (t1 : Bool) (z1 : LLC) (n2 : OBo) (t2 : Bool) (z2 : LLC) : p43.rts b43_0 ([V.agg [V.c (C.str p), V.c (C.sl 5 n0 t0 z0), V.c (C.sl 5 n1 t1 z1), V.c (C.sl 5 n2 t2 z2)]]) (g43_0 nl7 t7 xs7 i8 sh0 nlh0 th0 xsh0 nlh0_1 th0_1 xsh0_1 sh1 nlh1 th1 xsh1 nlh1_1 th1_1 xsh1_1 ys2_1 nh3) = (Tr.chk (isRows z0) (Tr.chk (isRows z1) (Tr.chk (isRows z2) (Tr.chk (decide (z0.length ≤ 9223372036854775807)) (Tr.chk (decide (z1.length ≤ 9223372036854775807)) (Tr.br (!!bad3 (toRows z0) (toRows z1) (toRows z2)) (Tr.chk true (Tr.chk true (Tr.chk (decide (nh3 + 1 < 4294967296)) (Tr.chk true (Tr.leaf (R.s (g43_0 nl7 t7 xs7 i8 sh0 nlh0 th0 xsh0 nlh0_1 th0_1 xsh0_1 sh1 nlh1 th1 xsh1 nlh1_1 th1_1 xsh1_1 (List.take nh3 ys2_1 ++ [[C.str p]]) (nh3 + 1)))))))) (Tr.chk (isRows xsh1) (Tr.chk (isL xsh1_1) (Tr.chk (isRows (rows (metR (toRows z0) (toRows z1) (toRows z2)))) (Tr.chk true (Tr.leaf (R.s (g43_0 nl7 t7 xs7 i8 sh0 nlh0 th0 xsh0 nlh0_1 th0_1 xsh0_1 ((putP (Nd.node sh1 (toRows xsh1) (decL xsh1_1)) p (toRows (rows (metR (toRows z0) (toRows z1) (toRows z2))))).fst.lab) (none) false (rows (putP (Nd.node sh1 (toRows xsh1) (decL xsh1_1)) p (toRows (rows (metR (toRows z0) (toRows z1) (toRows z2))))).fst.rows) (none) false (encL (putP (Nd.node sh1 (toRows xsh1) (decL xsh1_1)) p (toRows (rows (metR (toRows z0) (toRows z1) (toRows z2))))).fst.kids) ys2_1 nh3))))))))))))) := by kernel_rfl
theorem k43_0n (nl7 : OBo) (t7 : Bool) (xs7 : LLC) (i8 : Int) (sh0 : Bys) (nlh0 : OBo) (th0 : Bool) (xsh0 : LLC) (nlh0_1 : OBo) (th0_1 : Bool) (xsh0_1 : LLC) (sh1 : Bys) (nlh1 : OBo) (th1 : Bool) (xsh1 : LLC) (nlh1_1 : OBo) (th1_1 : Bool) (xsh1_1 : LLC) (ys2_1 : LLC) (nh3 : Nat) : p43.fkx 0 (x43_0n nl7 t7 xs7 i8 sh0 nlh0 th0 xsh0 nlh0_1 th0_1 xsh0_1 sh1 nlh1 th1 xsh1 nlh1_1 th1_1 xsh1_1 ys2_1 nh3) = (Tr.chk true (Tr.br (decide (0 < (↑nh3 : Int))) (Tr.leaf (R.out [V.agg [V.c (C.str []), V.c (C.sl 5 none false []), V.c (C.sl 3 none false [])], V.c (C.sl 1 none false (List.take nh3 ys2_1)), V.c (C.int IntKind.i64 19)] [])) (Tr.leaf (R.out [V.agg [V.c (C.str sh1), V.c (C.sl 5 none false xsh1), V.c (C.sl 3 none false xsh1_1)], V.c (C.sl 1 none false []), V.c (C.int IntKind.i64 0)] [])))) := by kernel_rfl
theorem t43 (s : Bys) (rn : OBo) (rt : Bool) (xs : LLC) (kn : OBo) (kt : Bool) (ys : LLC) (s2 : Bys) (rn2 : OBo) (rt2 : Bool) (xs2 : LLC) (kn2 : OBo) (kt2 : Bool) (ys2 : LLC) (s3 : Bys) (rn3 : OBo) (rt3 : Bool) (xs3 : LLC) (kn3 : OBo) (kt3 : Bool) (ys3 : LLC) : p43.ft ([V.agg [V.c (C.str s), V.c (C.sl 5 rn rt xs), V.c (C.sl 3 kn kt ys)], V.agg [V.c (C.str s2), V.c (C.sl 5 rn2 rt2 xs2), V.c (C.sl 3 kn2 kt2 ys2)], V.agg [V.c (C.str s3), V.c (C.sl 5 rn3 rt3 xs3), V.c (C.sl 3 kn3 kt3 ys3)]]) ([]) = (Tr.chk (isL [[C.str s, C.sl 5 rn rt xs, C.sl 3 kn kt ys], [C.str s2, C.sl 5 rn2 rt2 xs2, C.sl 3 kn2 kt2 ys2], [C.str s3, C.sl 5 rn3 rt3 xs3, C.sl 3 kn3 kt3 ys3]]) (Tr.chk true (Tr.br (!(decL [[C.str s, C.sl 5 rn rt xs, C.sl 3 kn kt ys], [C.str s2, C.sl 5 rn2 rt2 xs2, C.sl 3 kn2 kt2 ys2], [C.str s3, C.sl 5 rn3 rt3 xs3, C.sl 3 kn3 kt3 ys3]]).all okR) (Tr.leaf (R.out [V.agg [V.c (C.str []), V.c (C.sl 5 none false []), V.c (C.sl 3 none false [])], V.c (C.sl 1 none false []), V.c (C.int IntKind.i64 2)] [])) (Tr.rs 0 (s43_0 (some true) true ([]) (0) ([]) (some true) true ([]) (some true) true ([]) ([]) (some true) true ([]) (some true) true ([]) ([]) (0) (some false) true ([[C.str s, C.sl 5 rn rt xs, C.sl 3 kn kt ys], [C.str s2, C.sl 5 rn2 rt2 xs2, C.sl 3 kn2 kt2 ys2], [C.str s3, C.sl 5 rn3 rt3 xs3, C.sl 3 kn3 kt3 ys3]])))))) := by kernel_rfl
end Go.Proofs.YtgaabjmbnomimaaDoor
namespace Go.Proofs.YtgaabjmbnomimaaDoor
open Go Go.Ev
theorem sidesF_len : ∀ (f : Nat) (x y z : List Ent), (sidesF f x y z).length ≤ f
  | 0, _, _, _ => Nat.le_refl _
  | f + 1, x, y, z => by
    by_cases h : leastP (leastP (leastP [] x) y) z = []
    · rw [sidesF_end f h]; exact Nat.zero_le _
    · rw [sidesF_step f rfl h, List.length_cons]; exact Nat.succ_le_succ (sidesF_len f _ _ _)
theorem encS_eq (s : Sd) : encS s = [V.agg [V.c (C.str s.p), V.c (C.sl 5 (rcN s.a) (rcT s.a) (rows s.a)), V.c (C.sl 5 (rcN s.b) (rcT s.b) (rows s.b)), V.c (C.sl 5 (rcN s.c) (rcT s.c) (rows s.c))]] := by
  rw [encS, VS, rowsV_eq, rowsV_eq, rowsV_eq]
def strs (l : List (List UInt8)) : List (List C) := l.map fun p => [C.str p]
theorem strs_length (l : List (List UInt8)) : (strs l).length = l.length := List.length_map _
theorem strs_take (l : List (List UInt8)) : (strs l).take l.length = strs l := by rw [← strs_length l, List.take_length]
theorem strs_snoc (l : List (List UInt8)) (p : Bys) : strs l ++ [[C.str p]] = strs (l ++ [p]) := by simp [strs]
def mergeP (a b c : Nd) : Nd × List (List UInt8) × Int := if okR a = true ∧ okR b = true ∧ okR c = true then (if badT a b c = [] then (mergeT a b c, [], 0) else (nd0, badT a b c, 19)) else (nd0, [], 2)
theorem right_len63 {l : List Row} (h : right l = true) : l.length ≤ 9223372036854775807 := by have := right_len4 h; omega
theorem entP_len (t : Nd) (h : (entL t.kids).length < 1000000000) : (entP t).length < 1000000000 := by
  rw [entP]; cases okR t
  · simp
  · exact h
structure InvM (a b c : Nd) (l : List Sd) (t : Nd) (bad : List (List UInt8)) : Prop where
  ok : okR t = true
  tree : putsF gM t l = mergeT a b c
  bads : bad ++ badL l = badT a b c
  sub : ∀ s ∈ l, s ∈ S3 a b c
theorem badT_len (a b c : Nd) (ha : (entL a.kids).length < 1000000000) (hb : (entL b.kids).length < 1000000000) (hc : (entL c.kids).length < 1000000000) : (badT a b c).length < 4294967295 := by
  have h1 : (badT a b c).length ≤ (S3 a b c).length := by unfold badT badL; rw [List.length_map]; exact List.length_filter_le _ _
  have h2 : (S3 a b c).length ≤ (entP a).length + (entP b).length + (entP c).length + 1 := sidesF_len _ _ _ _
  have := entP_len a ha; have := entP_len b hb; have := entP_len c hc
  omega
theorem f43 (a b c : Nd) (ha : (entL a.kids).length < 1000000000) (hb : (entL b.kids).length < 1000000000) (hc : (entL c.kids).length < 1000000000) :
    call E 43 [VT a, VT b, VT c] [] = some ([VT (mergeP a b c).1, .c (.sl 1 none false (strs (mergeP a b c).2.1)), V.i (mergeP a b c).2.2], []) := by
  have hct : (ctOf [(93, s93), (94, s94), (95, s95), (25, s25)]).ok E := ctOf_cons s93_ok (ctOf_cons s94_ok (ctOf_cons s95_ok (ctOf_cons s25_ok ctOf_nil)))
  refine call_of (E := E) (sh := sh) (ct := ctOf [(93, s93), (94, s94), (95, s95), (25, s25)]) (na := 3) (m := 0) hct rfl rfl rfl rfl rfl rfl ?_
  show p43.fd (p43.ft [VT a, VT b, VT c] []) = some (.out _ _)
  rw [show p43.ft [VT a, VT b, VT c] [] = _ from t43 _ _ _ _ _ _ _ _ _ _ _ _ _ _ _ _ _ _ _ _ _]
  have hL : ([[C.str a.lab, C.sl 5 none false (rows a.rows), C.sl 3 none false (encL a.kids)], [C.str b.lab, C.sl 5 none false (rows b.rows), C.sl 3 none false (encL b.kids)], [C.str c.lab, C.sl 5 none false (rows c.rows), C.sl 3 none false (encL c.kids)]] : LLC) = encL [a, b, c] := by
    simp only [encL, Nd.enc_eq]
  rw [hL]
  simp only [nd_ok, nd_lab, nd_rows, nd_kids, encL_length, isL_enc, decL_enc, wrap_hd, hd_pos, ld_br, ld_chk', ld_leaf, fd_br, fd_chk', fd_leaf, decide_true, decide_eq_true_eq, if_true, Int.toNat_natCast, Int.natCast_nonneg, Int.ofNat_lt, Int.ofNat_le, Bool.false_eq_true, if_false, bne_iff_ne, beq_iff_eq, ne_eq, not_true_eq_false, not_false_eq_true, Bool.not_eq_true', decide_eq_false_iff_not, reduceCtorEq, rows_length, pcs_length, er_ok, er_ok', ep_ok, ep_ok', dr_er, dp_ep, isRows_rows, isPcs_pcs, toRows_rows, toPcs_pcs, rows_take, rows_drop, pcs_take, pcs_drop, rows_append, pcs_append, ints_length, isInts_ints, toInts_ints, ei_i, ei_ok, mk_headD, ints_take, ints_drop, ints_append, ints_snoc, ints_snoc', List.take_length, Nat.zero_add, Nat.le_refl, er_a, er_b, er_k, er_n, er_s, er_v, ep_a, ep_b, ep_hk, ep_hn, ep_hs, ep_wk, ep_wn, ep_ws, List.all_cons, List.all_nil, Bool.and_true]
  have hand : (okR a && (okR b && okR c)) = decide (okR a = true ∧ okR b = true ∧ okR c = true) := by
    cases okR a <;> cases okR b <;> cases okR c <;> rfl
  by_cases hok : okR a = true ∧ okR b = true ∧ okR c = true
  · rw [hand, decide_eq_true hok]
    rw [if_neg (by simp)]
    have hs := spT a b c
    have hlen := badT_len a b c ha hb hc
    refine fd_rpost hct (by kernel_rfl) rfl (ranges_post (p := p43) hct (c := b43_0) (gi := 137) (caps := [.ptr 4 0 0 0]) (args := [.yl 1, .ptr 0 0 0 0])
      (h0 := [.box [.c (.sl 3 (some false) true (encL [a, b, c]))]]) (ids := [4]) (by kernel_rfl) (S3 a b c) encS rfl (by kernel_rfl)
      (sq137_3 (some false) true a b c)
      (fun u b' hw => ⟨_, _, f137_3 (some false) true a b c ha hb hc u b' hw, rfl⟩)
      (fun (s : (Nd × Option Bool × Bool × Option Bool × Bool) × List (List UInt8)) => g43_0 (some true) true [] 0 [] (some true) true [] (some true) true [] s.1.1.lab s.1.2.1 s.1.2.2.1 (rows s.1.1.rows) s.1.2.2.2.1 s.1.2.2.2.2 (encL s.1.1.kids) (strs s.2) s.2.length)
      (fun l s => InvM a b c l s.1.1 s.2) _ ?_ ?_ ((nd0, some true, true, some true, true), []) rfl ⟨nd0_ok, rfl, rfl, fun s h => h⟩)
    · rintro s l ⟨⟨t, rn, rt, kn, kt⟩, bad⟩ ⟨h1, h2, h3, h4⟩
      dsimp only at h1 h2 h3 h4 ⊢
      left
      have hsm := h4 s (by simp)
      have hra : right s.a = true := by rw [hs.a s hsm]; exact look_right (gd_entP a) _
      have hrb : right s.b = true := by rw [hs.b s hsm]; exact look_right (gd_entP b) _
      have hrc : right s.c = true := by rw [hs.c s hsm]; exact look_right (gd_entP c) _
      have la := right_len63 hra
      have lb := right_len63 hrb
      obtain ⟨pn, pl⟩ := hs.path (gd_entP a) (gd_entP b) (gd_entP c) hsm
      have hrm : right (metR s.a s.b s.c) = true := by
        unfold metR met3
        split
        · rfl
        · split
          · exact hrb
          · exact hrc
      have hput : putP t s.p (metR s.a s.b s.c) = (putR t s.p (metR s.a s.b s.c), 0) := by
        rw [putP, if_pos ⟨h1, isPath_iff.2 ⟨pn, pl⟩, hrm⟩]
      have hbl : bad.length + 1 ≤ 4294967295 ∨ badS s = false := by
        cases hb : badS s with
        | false => exact .inr rfl
        | true =>
          left
          have := congrArg List.length h3
          rw [show badL (s :: l) = s.p :: badL l by simp [badL, hb]] at this
          simp only [List.length_append, List.length_cons] at this; omega
      rw [encS_eq]
      cases hbd : badS s with
      | true =>
        have hbl2 : bad.length + 1 < 4294967296 := by
          rcases hbl with h | h
          · omega
          · rw [hbd] at h; cases h
        refine ⟨((t, rn, rt, kn, kt), bad ++ [s.p]), ⟨h1, ?_, ?_, fun u hu => h4 u (by simp [hu])⟩, ?_⟩
        · rw [← h2, putsF]; simp only [gM, hbd, if_true]
        · rw [← h3, show badL (s :: l) = s.p :: badL l by simp [badL, hbd]]; simp
        · refine (congrArg _ (t43_0 (some true) true [] 0 [] (some true) true [] (some true) true [] t.lab rn rt (rows t.rows) kn kt (encL t.kids) (strs bad) bad.length s.p _ _ (rows s.a) _ _ (rows s.b) _ _ (rows s.c))).trans ?_
          have hbd' : bad3 s.a s.b s.c = true := hbd
          simp only [rd_br, rd_chk', rd_leaf, if_true, isRows_rows, toRows_rows, rows_length, la, lb, hbd', hbl2, decide_true, Bool.not_true, Bool.not_false, strs_take, strs_snoc, List.length_append, List.length_singleton]
      | false =>
        refine ⟨((putR t s.p (metR s.a s.b s.c), none, false, none, false), bad), ⟨?_, ?_, ?_, fun u hu => h4 u (by simp [hu])⟩, ?_⟩
        · exact (putR_ok h1 pn pl hrm).1
        · have hbd' : bad3 s.a s.b s.c = false := hbd
          rw [← h2, putsF]; simp only [gM, hbd, metS, metR, hbd', Bool.false_eq_true, if_false]
        · rw [← h3, show badL (s :: l) = badL l by simp [badL, hbd]]
        · refine (congrArg _ (t43_0 (some true) true [] 0 [] (some true) true [] (some true) true [] t.lab rn rt (rows t.rows) kn kt (encL t.kids) (strs bad) bad.length s.p _ _ (rows s.a) _ _ (rows s.b) _ _ (rows s.c))).trans ?_
          have hbd' : bad3 s.a s.b s.c = false := hbd
          simp only [rd_br, rd_chk', rd_leaf, if_true, isRows_rows, isL_enc, decL_enc, toRows_rows, rows_length, la, lb, hbd', Bool.not_true, Bool.not_false, Bool.false_eq_true, if_false, decide_true, Nd.eta, hput]
    · rintro ⟨⟨t, rn, rt, kn, kt⟩, bad⟩ ⟨h1, h2, h3, h4⟩
      dsimp only at h1 h2 h3 h4
      have h2' : t = mergeT a b c := h2
      have h3' : bad = badT a b c := by rw [← h3]; simp [badL]
      subst h2' h3'
      refine (congrArg _ (k43_0n (some true) true [] 0 [] (some true) true [] (some true) true [] _ rn rt _ kn kt _ _ _)).trans ?_
      simp only [fd_chk', fd_br, fd_leaf, if_true, strs_take, mergeP, if_pos hok, decide_eq_true_eq]
      by_cases hb0 : badT a b c = []
      · rw [hb0]; rfl
      · have : (0 : Int) < ((badT a b c).length : Nat) := by have := List.length_pos_iff.2 hb0; omega
        rw [if_pos this, if_neg hb0]; rfl
  · rw [hand, decide_eq_false hok]
    rw [if_pos (by simp), mergeP, if_neg hok]
    rfl
end Go.Proofs.YtgaabjmbnomimaaDoor
namespace Go.Proofs.YtgaabjmbnomimaaDoor
open Go Go.Ev
-- cse
def s135 : CSpec := fun a h => match a, h with
  | [.c (.sl 5 nl tt xs)], [] => some ([isRows xs], [V.b (shortR (toRows xs))], [])
  | _, _ => none
variable (dd : Nat)
def s90 : CSpec := fun a h => match a, h with
  | [.agg [.c (.str s), .c (.sl 5 rn rt xs), .c (.sl 3 kn kt ys)], .c (.int .i64 n), .c (.int .i64 d)], [] => some ([isRows xs, isL ys, decide (depL (decL ys) < dd), decide (0 ≤ n), decide (n ≤ 1000), decide (-1000 ≤ d), decide (d ≤ 1000), lensT (.node s (toRows xs) (decL ys))], [V.i (leftT (.node s (toRows xs) (decL ys)) n d)], [])
  | _, _ => none
def s43 : CSpec := fun a h => match a, h with
  | [.agg [.c (.str s), .c (.sl 5 none false xs), .c (.sl 3 none false ys)], .agg [.c (.str s2), .c (.sl 5 none false xs2), .c (.sl 3 none false ys2)], .agg [.c (.str s3), .c (.sl 5 none false xs3), .c (.sl 3 none false ys3)]], [] => some ([isRows xs, isL ys, isRows xs2, isL ys2, isRows xs3, isL ys3, decide ((entL (decL ys)).length < 1000000000), decide ((entL (decL ys2)).length < 1000000000), decide ((entL (decL ys3)).length < 1000000000)],
    [VT (mergeP (.node s (toRows xs) (decL ys)) (.node s2 (toRows xs2) (decL ys2)) (.node s3 (toRows xs3) (decL ys3))).1, .c (.sl 1 none false (strs (mergeP (.node s (toRows xs) (decL ys)) (.node s2 (toRows xs2) (decL ys2)) (.node s3 (toRows xs3) (decL ys3))).2.1)), V.i (mergeP (.node s (toRows xs) (decL ys)) (.node s2 (toRows xs2) (decL ys2)) (.node s3 (toRows xs3) (decL ys3))).2.2], [])
  | _, _ => none
end Go.Proofs.YtgaabjmbnomimaaDoor
namespace Go.Proofs.YtgaabjmbnomimaaDoor
open Go Go.Ev
theorem s43_ok : CSpecOk E 43 s43 := by
  intro a h cs vals h' he hc
  unfold s43 at he
  split at he <;> simp only [Option.some.injEq, Prod.mk.injEq, reduceCtorEq] at he
  rename_i s xs ys s2 xs2 ys2 s3 xs3 ys3
  obtain ⟨rfl, rfl, rfl⟩ := he
  simp only [allT, Bool.and_true, Bool.and_eq_true, decide_eq_true_eq] at hc
  obtain ⟨h1, h2, h3, h4, h5, h6, h7, h8, h9⟩ := hc
  obtain ⟨rs, rfl⟩ := rows_ex h1
  obtain ⟨ks, rfl⟩ := isL_ex h2
  obtain ⟨rs2, rfl⟩ := rows_ex h3
  obtain ⟨ks2, rfl⟩ := isL_ex h4
  obtain ⟨rs3, rfl⟩ := rows_ex h5
  obtain ⟨ks3, rfl⟩ := isL_ex h6
  simp only [toRows_rows, decL_enc] at *
  exact f43 (.node s rs ks) (.node s2 rs2 ks2) (.node s3 rs3 ks3) h7 h8 h9
end Go.Proofs.YtgaabjmbnomimaaDoor
namespace Go.Proofs.YtgaabjmbnomimaaDoor
open Go Go.Ev
mutual
theorem leftT_ent : ∀ (t : Nd) (n d : Int), 0 ≤ n → 0 < leftT t n d → ((entT t).length : Int) ≤ n - leftT t n d
  | .node lab rs ks, n, d, h0, h => by
    rw [leftT] at h ⊢
    split at h
    · omega
    · rename_i hc
      rw [if_neg hc]
      have := leftL_ent ks (n - 1 - ((lab.length / 50 : Nat) : Int)) (d - 1) (by omega) h
      have hl := entT_node [] lab rs ks
      rw [pre_nil] at hl
      rw [hl, List.length_append, pre_length]
      have ho : (ownE ([] ++ lab) rs).length ≤ 1 := by unfold ownE; split <;> simp
      omega
theorem leftL_ent : ∀ (l : List Nd) (n d : Int), 0 ≤ n → 0 < leftL l n d → ((entL l).length : Int) ≤ n - leftL l n d
  | [], n, d, h0, h => by rw [leftL, entL]; simp
  | t :: r, n, d, h0, h => by
    rw [leftL] at h ⊢
    split at h
    · rename_i hn
      rw [if_pos hn]
      have hle := leftT_le t n d h0
      have hpos : 0 < leftT t n d := by
        have := (leftL_le r (leftT t n d) d hle.1).2; omega
      have h1 := leftT_ent t n d h0 hpos
      have h2 := leftL_ent r (leftT t n d) d hle.1 h
      rw [entL, List.length_append]
      omega
    · omega
end
end Go.Proofs.YtgaabjmbnomimaaDoor
