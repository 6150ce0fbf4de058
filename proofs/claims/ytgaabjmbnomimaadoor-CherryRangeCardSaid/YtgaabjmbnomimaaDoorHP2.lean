/-
  Chapter 30 (cherry): ranges; Chapter 30 (cherry), trees, written by a program: moves; Chapter 30 (cherry): moves; Chapter 30 (cherry): the document's example, in parts, by the kernel: Pick, Revert; Chapter 30 (cherry): the document's example, in parts, by the kernel: Range; Chapter 30 (cherry): the document's example; Chapter 30 (cherry), trees, written by a program: Move; CherryRange; Chapter 30 (cherry): Move; Chapter 30 (cherry): the laws, but for their arguments' reading: CherryOwn; Chapter 30 (cherry), trees, written by a program: CherryRange; Chapter 30 (cherry): the laws, but for their .
-/
import Derived.Test.YtgaabjmbnomimaaDoorCT1
import Derived.Test.YtgaabjmbnomimaaDoorDP3
set_option linter.all false
namespace Go.Proofs.YtgaabjmbnomimaaDoor
open Go Go.Ev
theorem idxI_drop {l : List Int} {k : Nat} (n : Int) (j : Nat) (hk : k < l.length) : idxI n (l.drop k) j = if l[k] = n then (j : Int) else idxI n (l.drop (k + 1)) (j + 1) := by
 rw [List.drop_eq_getElem_cons hk, idxI]
theorem idxI_has (n : Int) (l : List Int) (j : Nat) : decide (0 <= idxI n l j) = l.contains n := by
 induction l generalizing j with
 | nil => rfl
 | cons x r ih =>
   rw [idxI, List.contains_cons]
   by_cases c : x = n
   · subst c; simp
   · rw [if_neg c, ih (j + 1)]
     have : (n == x) = false := by rw [beq_eq_false_iff_ne]; exact fun e => c e.symm
     rw [this, Bool.false_or]
theorem f147 (nl : OBo) (tt : Bool) (l : List Int) (n : Int) (hl : l.length <= 4294967296) : call E 147 [.c (.sl 1 nl tt (ints l)), V.i n] [] = some ([V.i (idxI n l 0)], []) := by
 refine call_of (E := E) (sh := sh) (ct := ctOf []) (na := 2) (m := 0) ctOf_nil rfl rfl rfl rfl rfl rfl ?_
 rw [t147, ints_length]
 refine fd_post (p := p147) ctOf_nil (by kernel_rfl) rfl (list_post (p := p147) ctOf_nil (b := b147_0) l.length (fun k (_ : Unit) => s147_0 nl tt (ints l) n l.length k) (fun k _ => idxI n (l.drop k) k = idxI n l 0) _ ?_ ?_ 0 (Nat.zero_le _) () rfl)
 · intro k _ hk hi
   rw [idxI_drop _ _ hk] at hi
   have e : p147.ld b147_0 (p147.lts b147_0 (s147_0 nl tt (ints l) n l.length k)) = (if l[k] = n then some (R.x (x147_0x0 k)) else some (R.s (s147_0 nl tt (ints l) n l.length ((k + 1 : Nat) : Int)))) := by
     rw [t147_0]
     have hg := ints_getD' hk
     have : (ei l[k]).headD C.pnil = C.int .i64 l[k] := rfl
     simp only [ld_br, ld_chk', ld_leaf, decide_true, if_true, Int.toNat_natCast, Int.natCast_nonneg, Int.ofNat_lt, beq_iff_eq, ints_length, ei_ok, hk, hg, this, C.i, wrap_succ (show k < 9223372036854775807 by omega)]
     by_cases c : l[k] = n
     · rw [if_pos c, if_pos c.symm]
     · rw [if_neg c, if_neg (fun e => c e.symm)]
   by_cases c : l[k] = n
   · rw [if_pos c] at hi e
     exact .inr ⟨x147_0x0 k, by simp, by rw [k147_0x0, fd_leaf, <- hi], e⟩
   · rw [if_neg c] at hi e
     exact .inl ⟨(), hi, e⟩
 · intro _ hi
   rw [List.drop_length] at hi
   refine ⟨x147_0x1 nl tt (ints l) n l.length l.length, by simp, ?_, ?_⟩
   · rw [k147_0x1, fd_leaf, <- hi]; rfl
   · rw [t147_0]; simp only [ld_br, ld_chk', ld_leaf, decide_true, decide_eq_true_eq, if_true, Int.toNat_natCast, Int.natCast_nonneg, if_false, beq_iff_eq, ints_length, Int.lt_irrefl]
theorem s147_ok : CSpecOk E 147 s147 := by
 intro a h cs vals h' he hc
 unfold s147 at he
 split at he <;> simp only [Option.some.injEq, Prod.mk.injEq, reduceCtorEq] at he
 rename_i nl tt xs n
 obtain ⟨rfl, rfl, rfl⟩ := he
 simp only [allT, Bool.and_true, Bool.and_eq_true, decide_eq_true_eq] at hc
 obtain ⟨h1, h2⟩ := hc
 obtain ⟨l, rfl⟩ := ints_ex h1
 rw [ints_length] at h2
 rw [toInts_ints]
 exact f147 nl tt l n h2
theorem f113 (nl : OBo) (tt : Bool) (l : List Int) (n : Int) (hl : l.length <= 4294967296) : call E 113 [.c (.sl 1 nl tt (ints l)), V.i n] [] = some ([V.b (l.contains n)], []) := by
 refine call_of (E := E) (sh := sh) (ct := ctOf [(147, s147)]) (na := 2) (m := 0) (ctOf_cons s147_ok ctOf_nil) rfl rfl rfl rfl rfl rfl ?_
 rw [t113]
 simp only [fd_chk', fd_leaf, decide_true, if_true, ints_length, isInts_ints, toInts_ints, hl, idxI_has]
theorem s113_ok : CSpecOk E 113 s113 := by
 intro a h cs vals h' he hc
 unfold s113 at he
 split at he <;> simp only [Option.some.injEq, Prod.mk.injEq, reduceCtorEq] at he
 rename_i nl tt xs n
 obtain ⟨rfl, rfl, rfl⟩ := he
 simp only [allT, Bool.and_true, Bool.and_eq_true, decide_eq_true_eq] at hc
 obtain ⟨h1, h2⟩ := hc
 obtain ⟨l, rfl⟩ := ints_ex h1
 rw [ints_length] at h2
 rw [toInts_ints]
 exact f113 nl tt l n h2
theorem backI_len : ∀ (l : List Int) (n : Int), (backI l n).length = l.length
 | [], _ => rfl
 | x :: r, n => by rw [backI, List.length_append, backI_len r]; simp
theorem backI_get : ∀ (l : List Int) (n : Int) (c : Nat) (h : c < l.length), (backI l n)[l.length - 1 - c]? = some (n + c, l[c])
 | [], _, _, h => by simp at h
 | x :: r, n, c, h => by
   rw [backI]
   cases c with
   | zero =>
     have : (x :: r).length - 1 - 0 = (backI r (n + 1)).length := by rw [backI_len]; simp
     rw [this, List.getElem?_append_right (Nat.le_refl _), Nat.sub_self]
     simp
   | succ c =>
     simp only [List.length_cons] at h
     have e : (x :: r).length - 1 - (c + 1) = r.length - 1 - c := by simp only [List.length_cons]; omega
     rw [e, List.getElem?_append_left (by rw [backI_len]; omega), backI_get r (n + 1) c (by omega)]
     simp only [List.getElem_cons_succ, Option.some.injEq, Prod.mk.injEq, and_true]
     omega
theorem backI_snd (l : List Int) (n : Int) : (backI l n).map Prod.snd = l.reverse := by
 induction l generalizing n with
 | nil => rfl
 | cons x r ih => rw [backI, List.map_append, ih, List.reverse_cons]; rfl
theorem f146 (nl : OBo) (tt : Bool) (l : List Int) (hl : l.length <= 4294967296) (u : List (List V)) (b : Bool) (hw : Want ((backI l 0).map encB) u b) :
   call E 146 [.yl 1, .ptr 0 0 0 0] [.box [.c (.sl 1 nl tt (ints l))], .yo u b] = some ([], [.box [.c (.sl 1 nl tt (ints l))], .yo [] b]) := by
 refine call_of (E := E) (sh := sh) (ct := ctOf []) (na := 2) (m := 2) ctOf_nil rfl rfl rfl rfl rfl rfl ?_
 rw [t146, ints_length]
 obtain ⟨m, hu, hm0, hm1, hm2⟩ := want_take hw
 have hes : ((backI l 0).map encB).length = l.length := by rw [List.length_map, backI_len]
 have w0 : IntKind.wrap .i64 ((l.length : Int) - 1) = (l.length : Int) - 1 := wrap_same (by omega) (by omega)
 rw [w0]
 refine fd_post (p := p146) ctOf_nil (by kernel_rfl) rfl (loops_post (p := p146) ctOf_nil (b := b146_0) (ι := Nat × List (List V)) (fun s => s146_0 nl tt (ints l) s.2 b ((s.1 : Int) - 1)) (fun s => s.1 <= l.length /\ At u b m (l.length - s.1) s.2) (fun s => s.1) _ ?_ (l.length, u) ⟨Nat.le_refl _, by simp, Nat.le_trans (by simp) (Nat.zero_le m), fun h => by have := hm2 h; dsimp only; omega⟩)
 rintro ⟨k, r⟩ ⟨hk, hat⟩
 simp only at hk hat ⊢
 cases k with
 | zero =>
   obtain ⟨rfl, rfl⟩ := hat.end_ hu hm0 (by rw [hes]; omega)
   refine .inr ⟨x146_0x1 nl tt (ints l) [] false (((0 : Nat) : Int) - 1), by simp, by rw [k146_0x1, fd_leaf], ?_⟩
   rw [t146_0]
   simp only [ld_br, ld_chk', ld_leaf, decide_eq_true_eq, if_true, Bool.not_eq_true', ints_length]
   rw [if_neg (by omega)]
 | succ k =>
   have hi : ((k + 1 : Nat) : Int) - 1 = (k : Nat) := by omega
   have hkl : k < l.length := by omega
   have hc : l.length - (k + 1) < ((backI l 0).map encB).length := by rw [hes]; omega
   obtain ⟨_, hr1, hr2, hr3⟩ := hat.next hu hm0 hm1 hc
   have he : ((backI l 0).map encB)[l.length - (k + 1)] = encB ((k : Int), l[k]) := by
     have h0 := backI_get l 0 k hkl
     rw [show l.length - 1 - k = l.length - (k + 1) by omega] at h0
     obtain ⟨h1, h2⟩ := List.getElem?_eq_some_iff.1 h0
     rw [List.getElem_map, h2, Int.zero_add]
   rw [he] at hr1
   have hg := ints_getD' hkl
   have hh : (ei l[k]).headD C.pnil = C.int .i64 l[k] := rfl
   have hyo : yoHd r [V.c (C.int IntKind.i64 k), V.c (C.int IntKind.i64 l[k])] = true := by rw [hr1]; simp [yoHd, encB, eqbV, V.eqb, C.eqb]
   have w1 : IntKind.wrap .i64 ((k : Int) - 1) = (k : Int) - 1 := wrap_same (by omega) (by omega)
   have go : p146.ld b146_0 (p146.lts b146_0 (s146_0 nl tt (ints l) r b k)) = if yoAns r b = true then some (R.s (s146_0 nl tt (ints l) r.tail b ((k : Int) - 1))) else some (R.x (x146_0x0 nl tt (ints l) r b k)) := by
     rw [t146_0]
     simp only [ld_br, ld_chk', ld_leaf, decide_true, if_true, Int.toNat_natCast, Int.natCast_nonneg, Bool.not_eq_true', ints_length, ei_ok, hkl, hg, hh, C.i, hyo, w1]
     cases yoAns r b <;> simp
   rw [hi, go]
   rcases hr3 with ⟨h1, h2⟩ | ⟨h1, h2, h3⟩
   · rw [if_pos h1]
     refine .inl ⟨(k, r.tail), ⟨by dsimp only; omega, ?_⟩, by dsimp only; omega, rfl⟩
     have : l.length - (k + 1) + 1 = l.length - k := by omega
     rw [this] at h2; exact h2
   · rw [if_neg (by simp [h1])]
     exact .inr ⟨_, by simp, by rw [k146_0x0, fd_leaf, h2], rfl⟩
theorem s111_ok : CSpecOk E 111 s111 := by
 intro a h cs vals h' he hc
 unfold s111 at he
 split at he <;> simp only [Option.some.injEq, Prod.mk.injEq, reduceCtorEq] at he
 obtain ⟨rfl, rfl, rfl⟩ := he
 exact (call_of (E := E) (sh := sh) (ct := ctOf []) (na := 1) (m := 0) ctOf_nil rfl rfl rfl rfl rfl rfl (by rw [show p111.ft _ _ = _ from t111 _ _ _]; rfl))
theorem filter_at {α : Type} {p : α -> Bool} {L : List α} {j : Nat} (h : j < L.length) (hp : p L[j] = true) : (L.filter p)[((L.take j).filter p).length]? = some L[j] := by
 have e : L = L.take j ++ L[j] :: L.drop (j + 1) := by rw [<- List.drop_eq_getElem_cons h, List.take_append_drop]
 have e2 : L.filter p = (L.take j).filter p ++ L[j] :: (L.drop (j + 1)).filter p := by
   conv => lhs; rw [e]
   rw [List.filter_append, List.filter_cons, if_pos hp]
 rw [e2, List.getElem?_append_right (Nat.le_refl _), Nat.sub_self]; rfl
def boxC (nl : OBo) (tt : Bool) (l : List Gr.Cm) (kn : OBo) (kt : Bool) (ys : LLC) (n : Int) (n1 : OBo) (t1 : Bool) (zs : List Int) : Hp := [.box [.c (.sl 2 nl tt (Gr.repo l)), .c (.sl 3 kn kt ys)], .box [V.i n], .box [.c (.sl 1 n1 t1 (ints zs))]]
theorem firstG_len (l : List Gr.Cm) (n : Int) : (Gr.firstG l n).length <= 501 := by
 have firstFrom_len : ∀ (k : Nat) (ps : List Int), (Gr.firstFrom l k ps).length <= k := by
   intro k
   induction k with
   | zero => intro ps; rw [Gr.firstFrom]; simp
   | succ k ih =>
     intro ps
     cases ps with
     | nil => rw [Gr.firstFrom]; simp
     | cons p ps =>
       rw [Gr.firstFrom, List.length_cons]
       have := ih (l.getD (p - 1).toNat ([], 0)).1
       omega
 unfold Gr.firstG
 split
 · rename_i hh
   obtain ⟨h1, h2⟩ := Gr.has_right hh
   have h3 := Gr.noNum_iff.1 (h2 n (by simp))
   have h4 := Gr.right_len h1
   have h5 := firstFrom_len n.toNat (l.getD (n - 1).toNat ([], 0)).1
   rw [List.length_cons]; omega
 · simp
theorem seq146 (F : List Int) (nl : OBo) (tt : Bool) : E.seq 146 [.yl 1, .ptr 0 0 0 0] [.box [.c (.sl 1 nl tt (ints F))]] = some ((backI F 0).map encB) := by
 have : sq 146 [.yl 1, .ptr 0 0 0 0] [.box [.c (.sl 1 nl tt (ints F))]] = some ((backI F 0).map encB) := by
   simp only [sq, sq146, toInts_ints]
 exact this
theorem f110 (l : List Gr.Cm) (nl : OBo) (tt : Bool) (kn : OBo) (kt : Bool) (ys : LLC) (n : Int) (n1 : OBo) (t1 : Bool) (zs : List Int) (hs : Gr.smallB l = true) (hz : zs.length <= 4294967296) (u : List (List V)) (b : Bool) (hw : Want ((commitsP l n zs).map encI) u b) :
   call E 110 [.yl 3, .ptr 0 0 0 0, .ptr 1 0 0 0, .ptr 2 0 0 0] (boxC nl tt l kn kt ys n n1 t1 zs ++ [.yo u b]) = some ([], boxC nl tt l kn kt ys n n1 t1 zs ++ [.yo [] b]) := by
 have hct : (ctOf [(111, s111), (112, Gr.s112), (113, s113)]).ok E := ctOf_cons s111_ok (ctOf_cons Gr.s112_ok (ctOf_cons s113_ok ctOf_nil))
 refine call_of (E := E) (sh := sh) (ct := ctOf [(111, s111), (112, Gr.s112), (113, s113)]) (na := 4) (m := 4) hct rfl rfl rfl rfl rfl rfl ?_
 show p110.fd (p110.ft [.yl 3, .ptr 0 0 0 0, .ptr 1 0 0 0, .ptr 2 0 0 0] [.box [.c (.sl 2 nl tt (Gr.repo l)), .c (.sl 3 kn kt ys)], .box [V.i n], .box [.c (.sl 1 n1 t1 (ints zs))], .yo u b]) = some (.out [] [.box [.c (.sl 2 nl tt (Gr.repo l)), .c (.sl 3 kn kt ys)], .box [V.i n], .box [.c (.sl 1 n1 t1 (ints zs))], .yo [] b])
 rw [t110]
 simp only [fd_chk', Gr.isRepo_repo, Gr.toRepo_repo, hs, if_true]
 have hF := firstG_len l n
 unfold commitsP at hw
 generalize Gr.firstG l n = F at *
 have hL : (F.reverse.filter fun k => !zs.contains k) = ((backI F 0).filter fun x => !zs.contains x.2).map Prod.snd := by
   rw [<- backI_snd F 0, List.filter_map]; rfl
 rw [hL] at hw
 generalize hB : backI F 0 = B at *
 obtain ⟨m, hu, hm0, hm1, hm2⟩ := want_take hw
 generalize hes : ((B.filter fun x => !zs.contains x.2).map Prod.snd).map encI = es at *
 have hesl : es.length = (B.filter fun x => !zs.contains x.2).length := by rw [<- hes]; simp
 have hr := ranges_post (p := p110) hct (c := b110_0) (gi := 146) (caps := [.ptr 5 0 0 0]) (args := [.yl 1, .ptr 0 0 0 0]) (s0 := s110_0 nl tt (Gr.repo l) kn kt ys n n1 t1 (ints zs) u b none false (ints F))
   (h0 := [.box [.c (.sl 1 none false (ints F))]]) (ids := [5]) (by kernel_rfl) B encB rfl (by kernel_rfl) (by rw [<- hB]; exact seq146 F none false)
   (fun u' b' hw' => ⟨_, _, f146 none false F (by omega) u' b' (by rw [hB]; exact hw'), rfl⟩)
   (fun (r : List (List V)) => g110_0 nl tt (Gr.repo l) kn kt ys n n1 t1 (ints zs) r b)
   (fun (L : List (Int × Int)) r => ∃ j, L = B.drop j /\ j <= B.length /\ At u b m ((B.take j).filter fun x => !zs.contains x.2).length r)
   (fun y => p110.fd (p110.fkx 0 y) = some (.out [] [.box [.c (.sl 2 nl tt (Gr.repo l)), .c (.sl 3 kn kt ys)], .box [V.i n], .box [.c (.sl 1 n1 t1 (ints zs))], .yo [] b]))
   (by
     rintro ⟨i, x⟩ L r ⟨j, hj, hjl, hat⟩
     have hj2 : j < B.length := by
       rcases Nat.lt_or_ge j B.length with h | h
       · exact h
       · rw [List.drop_of_length_le h] at hj; cases hj
     rw [List.drop_eq_getElem_cons hj2] at hj
     simp only [List.cons.injEq] at hj
     obtain ⟨hj3, rfl⟩ := hj
     have hnx : ((B.take (j + 1)).filter fun x => !zs.contains x.2) = ((B.take j).filter fun x => !zs.contains x.2) ++ (if zs.contains x = true then [] else [(i, x)]) := by
       rw [List.take_succ_eq_append_getElem hj2, List.filter_append, <- hj3]
       by_cases h : x ∈ zs <;> simp [h]
     have e0 := t110_0 nl tt (Gr.repo l) kn kt ys n n1 t1 (ints zs) r b i x
     rw [show encB (i, x) = [V.i i, V.i x] from rfl, e0]
     simp only [rd_chk', rd_br, rd_leaf, isInts_ints, toInts_ints, ints_length, hz, decide_true, if_true]
     by_cases hc : zs.contains x = true
     · rw [if_pos hc]
       refine .inl ⟨r, ⟨j + 1, rfl, by omega, ?_⟩, rfl⟩
       rw [hnx, if_pos hc, List.append_nil]; exact hat
     · rw [if_neg hc]
       have hp : (!zs.contains (B[j]).2) = true := by rw [<- hj3]; simpa using hc
       have hg := filter_at (p := fun x : Int × Int => !zs.contains x.2) hj2 hp
       obtain ⟨g1, g2⟩ := List.getElem?_eq_some_iff.1 hg
       have hc1 : ((B.take j).filter fun x => !zs.contains x.2).length < es.length := by rw [hesl]; exact g1
       obtain ⟨_, hr1, hr2, hr3⟩ := hat.next hu hm0 hm1 hc1
       have he : es[((B.take j).filter fun x => !zs.contains x.2).length] = encI x := by
         simp only [<- hes, List.getElem_map]
         rw [g2, <- hj3]
       rw [he] at hr1
       have hyo : yoHd r [V.c (C.int IntKind.i64 x)] = true := by rw [hr1]; simp [yoHd, encI, eqbV, V.eqb, C.eqb]
       rw [if_pos hyo]
       have hl1 : (((B.take j).filter fun x => !zs.contains x.2) ++ [(i, x)]).length = ((B.take j).filter fun x => !zs.contains x.2).length + 1 := by simp
       rcases hr3 with ⟨h1, h2⟩ | ⟨h1, h2, h3⟩
       · rw [if_neg (by simp [h1])]
         refine .inl ⟨r.tail, ⟨j + 1, rfl, by omega, ?_⟩, rfl⟩
         rw [hnx, if_neg hc, hl1]; exact h2
       · rw [if_pos (by simp [h1])]
         exact .inr ⟨_, by simp, by rw [k110_0x0, fd_leaf, h2], rfl⟩)
   (by
     rintro r ⟨j, hj, hjl, hat⟩
     have hj2 : j = B.length := by
       rcases Nat.lt_or_ge j B.length with h | h
       · rw [List.drop_eq_getElem_cons h] at hj; cases hj
       · omega
     subst hj2
     rw [List.take_length, <- hesl] at hat
     obtain ⟨rfl, rfl⟩ := hat.end_ hu hm0 rfl
     show p110.fd (p110.fkx 0 (x110_0n nl tt (Gr.repo l) kn kt ys n n1 t1 (ints zs) [] false)) = _
     rw [k110_0n, fd_leaf])
   u rfl ⟨0, rfl, Nat.zero_le _, by simp, Nat.zero_le _, fun h => by have := hm2 h; simp; omega⟩
 exact fd_rpost hct (by kernel_rfl) rfl hr
theorem f56 (l : List Gr.Cm) (nl : OBo) (tt : Bool) (kn : OBo) (kt : Bool) (ys : LLC) (f n : Int) (hs : Gr.smallB l = true) : call E 56 [.agg [.c (.sl 2 nl tt (Gr.repo l)), .c (.sl 3 kn kt ys)], V.i f, V.i n] [] =
   some ([V.fn 110 [V.ptr 0 0 0 0, V.ptr 1 0 0 0, V.ptr 2 0 0 0]], boxC nl tt l kn kt ys n none false (Gr.reachL l f)) := by
 refine call_of (E := E) (sh := sh) (ct := ctOf [(109, Gr.s109)]) (na := 3) (m := 0) (ctOf_cons Gr.s109_ok ctOf_nil) rfl rfl rfl rfl rfl rfl ?_
 rw [t56]
 simp only [fd_chk', fd_leaf, Gr.isRepo_repo, Gr.toRepo_repo, hs, if_true]; rfl
theorem s56_ok : CSpecOk E 56 s56 := by
 intro a h cs vals h' he hc
 unfold s56 at he
 split at he <;> simp only [Option.some.injEq, Prod.mk.injEq, reduceCtorEq] at he
 rename_i nl tt xs kn kt ys f n
 obtain ⟨rfl, rfl, rfl⟩ := he
 simp only [allT, Bool.and_true, Bool.and_eq_true] at hc
 obtain ⟨h1, h2⟩ := hc
 obtain ⟨l, rfl⟩ := repo_ex h1
 rw [Gr.toRepo_repo] at h2 ⊢
 exact f56 l nl tt kn kt ys f n h2
def boxG : Hp := [.gone, .gone, .gone]
theorem commitsP_len (l : List Gr.Cm) (n : Int) (zs : List Int) : (commitsP l n zs).length <= 501 := by
 unfold commitsP
 refine Nat.le_trans (List.length_filter_le _ _) ?_
 rw [List.length_reverse]; exact firstG_len l n
theorem seq110 (l : List Gr.Cm) (nl : OBo) (tt : Bool) (kn : OBo) (kt : Bool) (ys : LLC) (n : Int) (n1 : OBo) (t1 : Bool) (zs : List Int) : E.seq 110 [.yl 3, .ptr 0 0 0 0, .ptr 1 0 0 0, .ptr 2 0 0 0] (boxC nl tt l kn kt ys n n1 t1 zs) = some ((commitsP l n zs).map encI) := by
 have : sq 110 [.yl 3, .ptr 0 0 0 0, .ptr 1 0 0 0, .ptr 2 0 0 0] (boxC nl tt l kn kt ys n n1 t1 zs) = some ((commitsP l n zs).map encI) := by
   simp only [sq, sq110, boxC, Gr.toRepo_repo, toInts_ints]
 exact this
def gA108 : Fr × Hp := ([(2, V.ptr 3 0 0 0), (4, V.c (C.sl 1 (some true) true [])), (6, V.fn 110 [V.ptr 0 0 0 0, V.ptr 1 0 0 0, V.ptr 2 0 0 0])], [O.gone, O.gone, O.gone, O.box [V.c (C.sl 1 (some true) true [])]])
def gB108 (acc : List Int) : Fr × Hp := ([(2, V.ptr 3 0 0 0), (4, V.c (C.sl 1 (some true) true [])), (6, V.fn 110 [V.ptr 0 0 0 0, V.ptr 1 0 0 0, V.ptr 2 0 0 0])], [O.gone, O.gone, O.gone, O.box [V.buf 4 0 0 acc.length], O.mem 1 0 (ints acc)])
theorem f108 (l : List Gr.Cm) (nl : OBo) (tt : Bool) (kn : OBo) (kt : Bool) (ys : LLC) (n : Int) (n1 : OBo) (t1 : Bool) (zs : List Int) (hs : Gr.smallB l = true) (hz : zs.length <= 4294967296) :
   call E 108 [.c (.sl 1 (some true) true []), .fn 110 [.ptr 0 0 0 0, .ptr 1 0 0 0, .ptr 2 0 0 0]] (boxC nl tt l kn kt ys n n1 t1 zs) = some ([.c (.sl 1 none false (ints (commitsP l n zs)))], boxG) := by
 have hct : (ctOf []).ok E := ctOf_nil
 refine call_of (E := E) (sh := sh) (ct := ctOf []) (na := 2) (m := 3) hct rfl rfl rfl rfl rfl rfl ?_
 show p108.fd (p108.ft [.c (.sl 1 (some true) true []), .fn 110 [.ptr 0 0 0 0, .ptr 1 0 0 0, .ptr 2 0 0 0]] [.box [.c (.sl 2 nl tt (Gr.repo l)), .c (.sl 3 kn kt ys)], .box [V.i n], .box [.c (.sl 1 n1 t1 (ints zs))]]) = some (.out _ _)
 rw [t108]
 have hlen := commitsP_len l n zs
 refine fd_rpost hct (by kernel_rfl) rfl (ranges_post (p := p108) hct (c := b108_0) (gi := 110) (caps := [.ptr 0 0 0 0, .ptr 1 0 0 0, .ptr 2 0 0 0]) (args := [.yl 3, .ptr 0 0 0 0, .ptr 1 0 0 0, .ptr 2 0 0 0])
   (h0 := boxC nl tt l kn kt ys n n1 t1 zs) (ids := [0, 1, 2]) (by kernel_rfl) (commitsP l n zs) encI rfl (by kernel_rfl) (seq110 l nl tt kn kt ys n n1 t1 zs)
   (fun u b hw => ⟨_, _, f110 l nl tt kn kt ys n n1 t1 zs hs hz u b hw, rfl⟩)
   (fun (s : Option (List Int)) => match s with | none => gA108 | some acc => gB108 acc) (fun L s => (s = none /\ L = commitsP l n zs) \/ ∃ acc, s = some acc /\ acc ++ L = commitsP l n zs) _ ?_ ?_ none rfl (.inl ⟨rfl, rfl⟩))
 · rintro x L s (⟨rfl, hL⟩ | ⟨acc, rfl, hL⟩)
   · left
     refine ⟨some [x], .inr ⟨[x], rfl, by simpa using hL⟩, ?_⟩
     refine (congrArg _ (t108A (some true) true [] x)).trans ?_
     simp only [rd_chk', rd_leaf, if_true]; rfl
   · left
     have hl : acc.length + 1 < 4294967296 := by
       have := congrArg List.length hL
       simp only [List.length_append, List.length_cons] at this; omega
     refine ⟨some (acc ++ [x]), .inr ⟨acc ++ [x], rfl, by rw [<- hL]; simp⟩, ?_⟩
     refine (congrArg _ (t108B (some true) true [] acc.length (ints acc) x)).trans ?_
     have ht : List.take acc.length (ints acc) ++ [[C.int IntKind.i64 x]] = ints (acc ++ [x]) := by
       rw [List.take_of_length_le (by rw [ints_length]; exact Nat.le_refl _)]; simp [ints, ei]
     simp only [rd_chk', rd_leaf, if_true, hl, decide_true, ht]
     unfold gB108
     simp only [List.length_append, List.length_cons, List.length_nil]
 · rintro s (⟨rfl, hL⟩ | ⟨acc, rfl, hL⟩)
   · refine (congrArg p108.fd (t108eA (some true) true [])).trans ?_
     rw [fd_leaf, <- hL]; rfl
   · rw [List.append_nil] at hL
     refine (congrArg p108.fd (t108eB (some true) true [] acc.length (ints acc))).trans ?_
     rw [fd_leaf, List.take_of_length_le (by rw [ints_length]; exact Nat.le_refl _), hL]; rfl
theorem s108_ok : CSpecOk E 108 s108 := by
 intro a h cs vals h' he hc
 unfold s108 at he
 split at he <;> simp only [Option.some.injEq, Prod.mk.injEq, reduceCtorEq] at he
 rename_i nl tt xs kn kt ys n n1 t1 zs
 obtain ⟨rfl, rfl, rfl⟩ := he
 simp only [allT, Bool.and_true, Bool.and_eq_true, decide_eq_true_eq] at hc
 obtain ⟨h1, h2, h3, h4⟩ := hc
 obtain ⟨l, rfl⟩ := repo_ex h1
 obtain ⟨z, rfl⟩ := ints_ex h3
 rw [ints_length] at h4
 rw [Gr.toRepo_repo] at h2 ⊢
 rw [toInts_ints]
 exact f108 l nl tt kn kt ys n n1 t1 z h2 h4
theorem f55 (l : List Gr.Cm) (nl : OBo) (tt : Bool) (kn : OBo) (kt : Bool) (ys : LLC) (n : Int) (n1 : OBo) (t1 : Bool) (zs : List Int) (hs : Gr.smallB l = true) (hz : zs.length <= 4294967296) :
   call E 55 [.fn 110 [.ptr 0 0 0 0, .ptr 1 0 0 0, .ptr 2 0 0 0]] (boxC nl tt l kn kt ys n n1 t1 zs) = some ([.c (.sl 1 none false (ints (commitsP l n zs)))], boxG) := by
 refine call_of (E := E) (sh := sh) (ct := ctOf [(108, s108)]) (na := 1) (m := 3) (ctOf_cons s108_ok ctOf_nil) rfl rfl rfl rfl rfl rfl ?_
 show p55.fd (p55.ft [.fn 110 [.ptr 0 0 0 0, .ptr 1 0 0 0, .ptr 2 0 0 0]] [.box [.c (.sl 2 nl tt (Gr.repo l)), .c (.sl 3 kn kt ys)], .box [V.i n], .box [.c (.sl 1 n1 t1 (ints zs))]]) = some (.out _ _)
 rw [t55]
 simp only [fd_chk', fd_leaf, Gr.isRepo_repo, Gr.toRepo_repo, isInts_ints, toInts_ints, ints_length, hs, hz, decide_true, if_true]; rfl
theorem s55_ok : CSpecOk E 55 s55 := by
 intro a h cs vals h' he hc
 unfold s55 at he
 split at he <;> simp only [Option.some.injEq, Prod.mk.injEq, reduceCtorEq] at he
 rename_i nl tt xs kn kt ys n n1 t1 zs
 obtain ⟨rfl, rfl, rfl⟩ := he
 simp only [allT, Bool.and_true, Bool.and_eq_true, decide_eq_true_eq] at hc
 obtain ⟨h1, h2, h3, h4⟩ := hc
 obtain ⟨l, rfl⟩ := repo_ex h1
 obtain ⟨z, rfl⟩ := ints_ex h3
 rw [ints_length] at h4
 rw [Gr.toRepo_repo] at h2 ⊢
 rw [toInts_ints]
 exact f55 l nl tt kn kt ys n n1 t1 z h2 h4
theorem reachL_len (l : List Gr.Cm) (n : Int) : (Gr.reachL l n).length <= 501 := by
 unfold Gr.reachL
 split
 · unfold Gr.listG
   rw [List.length_map]
   exact Nat.le_trans (List.length_filter_le _ _) (by simp)
 · simp
theorem f19 (l : List Gr.Cm) (ks : List Nd) (f n : Int) (nl : OBo) (tt : Bool) (kn : OBo) (kt : Bool) (hs : Gr.smallB l = true) (hk : ks.length <= 4294967296) :
   call E 19 [.agg [.c (.sl 2 nl tt (Gr.repo l)), .c (.sl 3 kn kt (encL ks))], V.i f, V.i n] [] = some ([.c (.sl 1 none false (ints (rangeP l ks f n).1)), V.i (rangeP l ks f n).2], []) := by
 refine call_of (E := E) (sh := sh) (ct := ctOf [(53, s53), (55, s55), (56, s56)]) (na := 3) (m := 0) (ctOf_cons s53_ok (ctOf_cons s55_ok (ctOf_cons s56_ok ctOf_nil))) rfl rfl rfl rfl rfl rfl ?_
 rw [t19]
 have hr := reachL_len l f
 unfold rangeP
 simp only [encL_length, isL_enc, decL_enc, fd_br, fd_chk', fd_leaf, decide_true, if_true, bne_iff_ne, ne_eq, ints_length, isInts_ints, toInts_ints, Gr.isRepo_repo, Gr.toRepo_repo, hs, hk, ints2, show (Gr.reachL l f).length <= 4294967296 by omega]
 by_cases h0 : mayW l ks [f, n] = 0
 · rw [if_neg (by simpa using h0), if_pos h0]; rfl
 · rw [if_pos h0, if_neg h0]; rfl
def s19 : CSpec := fun a h => match a, h with
 | [.agg [.c (.sl 2 nl tt xs), .c (.sl 3 kn kt ys)], .c (.int .i64 f), .c (.int .i64 n)], [] => some ([Gr.isRepo xs, Gr.smallB (Gr.toRepo xs), isL ys, decide (ys.length <= 4294967296)], [.c (.sl 1 none false (ints (rangeP (Gr.toRepo xs) (decL ys) f n).1)), V.i (rangeP (Gr.toRepo xs) (decL ys) f n).2], [])
 | _, _ => none
theorem s19_ok : CSpecOk E 19 s19 := by
 intro a h cs vals h' he hc
 unfold s19 at he
 split at he <;> simp only [Option.some.injEq, Prod.mk.injEq, reduceCtorEq] at he
 rename_i nl tt xs kn kt ys f n
 obtain ⟨rfl, rfl, rfl⟩ := he
 simp only [allT, Bool.and_true, Bool.and_eq_true, decide_eq_true_eq] at hc
 obtain ⟨h1, h2, h3, h4⟩ := hc
 obtain ⟨l, rfl⟩ := repo_ex h1
 obtain ⟨ks, rfl⟩ := isL_ex h3
 rw [encL_length] at h4
 rw [Gr.toRepo_repo] at h2
 rw [decL_enc, Gr.toRepo_repo]
 exact f19 l ks f n nl tt kn kt h2 h4
end Go.Proofs.YtgaabjmbnomimaaDoor
namespace Go.Proofs.YtgaabjmbnomimaaDoor
open Go Go.Ev
-- cse
set_option maxHeartbeats 2000000
def okN (b : Bool) : Option Bool := cond b none (some true)
def mgP (l : List Gr.Cm) (ts : List Nd) (t : Nd) (n : Int) : Nd × List (List UInt8) × Int := mergeP (baseN l ts n) t (treeN ts n)
def mgO (l : List Gr.Cm) (ts : List Nd) (t : Nd) (n : Int) : Bool := decide ((mgP l ts t n).2.2 = 0)
def mgC (xs ys : LLC) (vs : LLC) (k n : Int) : List Bool := [Gr.isRepo xs, isL ys, decide (1 <= n), decide (n <= xs.length), decide (n <= ys.length), decide (xs.length <= 4294967296), decide (ys.length <= 4294967296), baseOk (Gr.toRepo xs) (decL ys) n, decide (0 <= k), decide (k < 4294967296), fewT (decL ys), decide ((entL (decL vs)).length < 1000000000), decide ((entL (baseN (Gr.toRepo xs) (decL ys) n).kids).length < 1000000000)]
def s58 : CSpec := fun a h => match a, h with
 | [.ptr 0 0 0 0, .c (.int .i64 n)], [.box [.c (.sl 2 nl tt xs), .c (.sl 3 kn kt ys), .c (.str s), .c (.sl 5 none false us), .c (.sl 3 none false vs), .c (.int .i64 k), .c (.sl 1 bn bt zs), .c (.int .i64 e)]] =>
   some (isRows us :: isL vs :: mgC xs ys vs k n, [V.b (mgO (Gr.toRepo xs) (decL ys) (.node s (toRows us) (decL vs)) n)],
     [.box [.c (.sl 2 nl tt xs), .c (.sl 3 kn kt ys), .c (.str (mgP (Gr.toRepo xs) (decL ys) (.node s (toRows us) (decL vs)) n).1.lab), .c (.sl 5 (okN (mgO (Gr.toRepo xs) (decL ys) (.node s (toRows us) (decL vs)) n)) (!mgO (Gr.toRepo xs) (decL ys) (.node s (toRows us) (decL vs)) n) (rows (mgP (Gr.toRepo xs) (decL ys) (.node s (toRows us) (decL vs)) n).1.rows)),
       .c (.sl 3 (okN (mgO (Gr.toRepo xs) (decL ys) (.node s (toRows us) (decL vs)) n)) (!mgO (Gr.toRepo xs) (decL ys) (.node s (toRows us) (decL vs)) n) (encL (mgP (Gr.toRepo xs) (decL ys) (.node s (toRows us) (decL vs)) n).1.kids)), V.i (cond (mgO (Gr.toRepo xs) (decL ys) (.node s (toRows us) (decL vs)) n) (k + 1) k),
       .c (.sl 1 (cond (mgO (Gr.toRepo xs) (decL ys) (.node s (toRows us) (decL vs)) n) bn none) (cond (mgO (Gr.toRepo xs) (decL ys) (.node s (toRows us) (decL vs)) n) bt false) (cond (mgO (Gr.toRepo xs) (decL ys) (.node s (toRows us) (decL vs)) n) zs (strs (mgP (Gr.toRepo xs) (decL ys) (.node s (toRows us) (decL vs)) n).2.1))),
       V.i (cond (mgO (Gr.toRepo xs) (decL ys) (.node s (toRows us) (decL vs)) n) e (mgP (Gr.toRepo xs) (decL ys) (.node s (toRows us) (decL vs)) n).2.2)]])
 | _, _ => none
noncomputable abbrev p57 : Par := par E sh (ctOf [(58, s58)]) 57 2 2
theorem t57 (nl : OBo) (tt : Bool) (xs : LLC) (kn : OBo) (kt : Bool) (ys : LLC) (s : Bys) (us : LLC) (vs : LLC) (k : Int) (bn : OBo) (bt : Bool) (zs : LLC) (e : Int) (n : Int) : p57.ft ([V.i n, V.ptr 0 0 0 0]) ([O.box [V.ptr 1 0 0 0], O.box [V.c (C.sl 2 nl tt xs), V.c (C.sl 3 kn kt ys), V.c (C.str s), V.c (C.sl 5 none false us), V.c (C.sl 3 none false vs), V.i k, V.c (C.sl 1 bn bt zs), V.i e]]) = (Tr.chk (isRows us) (Tr.chk (isL vs) (Tr.chk (Gr.isRepo xs) (Tr.chk (isL ys) (Tr.chk (decide (1 <= n)) (Tr.chk (decide (n <= (↑xs.length : Int))) (Tr.chk (decide (n <= (↑ys.length : Int))) (Tr.chk (decide (xs.length <= 4294967296)) (Tr.chk (decide (ys.length <= 4294967296)) (Tr.chk (baseOk (Gr.toRepo xs) (decL ys) n) (Tr.chk (decide (0 <= k)) (Tr.chk (decide (k < 4294967296)) (Tr.chk (fewT (decL ys)) (Tr.chk (decide ((entL (decL vs)).length < 1000000000)) (Tr.chk (decide ((entL (baseN (Gr.toRepo xs) (decL ys) n).kids).length < 1000000000)) (Tr.leaf (R.out [V.c (C.bool (mgO (Gr.toRepo xs) (decL ys) (Nd.node s (toRows us) (decL vs)) n))] [O.box [V.ptr 1 0 0 0], O.box [V.c (C.sl 2 nl tt xs), V.c (C.sl 3 kn kt ys), V.c (C.str (mgP (Gr.toRepo xs) (decL ys) (Nd.node s (toRows us) (decL vs)) n).fst.lab), V.c (C.sl 5 (okN (mgO (Gr.toRepo xs) (decL ys) (Nd.node s (toRows us) (decL vs)) n)) (!mgO (Gr.toRepo xs) (decL ys) (Nd.node s (toRows us) (decL vs)) n) (rows (mgP (Gr.toRepo xs) (decL ys) (Nd.node s (toRows us) (decL vs)) n).fst.rows)), V.c (C.sl 3 (okN (mgO (Gr.toRepo xs) (decL ys) (Nd.node s (toRows us) (decL vs)) n)) (!mgO (Gr.toRepo xs) (decL ys) (Nd.node s (toRows us) (decL vs)) n) (encL (mgP (Gr.toRepo xs) (decL ys) (Nd.node s (toRows us) (decL vs)) n).fst.kids)), V.c (C.int IntKind.i64 (bif mgO (Gr.toRepo xs) (decL ys) (Nd.node s (toRows us) (decL vs)) n then k + 1 else k)), V.c (C.sl 1 (bif mgO (Gr.toRepo xs) (decL ys) (Nd.node s (toRows us) (decL vs)) n then bn else none) (bif mgO (Gr.toRepo xs) (decL ys) (Nd.node s (toRows us) (decL vs)) n then bt else false) (bif mgO (Gr.toRepo xs) (decL ys) (Nd.node s (toRows us) (decL vs)) n then zs else strs (mgP (Gr.toRepo xs) (decL ys) (Nd.node s (toRows us) (decL vs)) n).snd.fst)), V.c (C.int IntKind.i64 (bif mgO (Gr.toRepo xs) (decL ys) (Nd.node s (toRows us) (decL vs)) n then e else (mgP (Gr.toRepo xs) (decL ys) (Nd.node s (toRows us) (decL vs)) n).snd.snd))]]))))))))))))))))) := by kernel_rfl
def s57 : CSpec := fun a h => match a, h with
 | [.c (.int .i64 n), .ptr 0 0 0 0], [.box [.ptr 1 0 0 0], .box [.c (.sl 2 nl tt xs), .c (.sl 3 kn kt ys), .c (.str s), .c (.sl 5 none false us), .c (.sl 3 none false vs), .c (.int .i64 k), .c (.sl 1 bn bt zs), .c (.int .i64 e)]] =>
   some (isRows us :: isL vs :: mgC xs ys vs k n, [V.b (mgO (Gr.toRepo xs) (decL ys) (.node s (toRows us) (decL vs)) n)],
     [.box [.ptr 1 0 0 0], .box [.c (.sl 2 nl tt xs), .c (.sl 3 kn kt ys), .c (.str (mgP (Gr.toRepo xs) (decL ys) (.node s (toRows us) (decL vs)) n).1.lab), .c (.sl 5 (okN (mgO (Gr.toRepo xs) (decL ys) (.node s (toRows us) (decL vs)) n)) (!mgO (Gr.toRepo xs) (decL ys) (.node s (toRows us) (decL vs)) n) (rows (mgP (Gr.toRepo xs) (decL ys) (.node s (toRows us) (decL vs)) n).1.rows)),
       .c (.sl 3 (okN (mgO (Gr.toRepo xs) (decL ys) (.node s (toRows us) (decL vs)) n)) (!mgO (Gr.toRepo xs) (decL ys) (.node s (toRows us) (decL vs)) n) (encL (mgP (Gr.toRepo xs) (decL ys) (.node s (toRows us) (decL vs)) n).1.kids)), V.i (cond (mgO (Gr.toRepo xs) (decL ys) (.node s (toRows us) (decL vs)) n) (k + 1) k),
       .c (.sl 1 (cond (mgO (Gr.toRepo xs) (decL ys) (.node s (toRows us) (decL vs)) n) bn none) (cond (mgO (Gr.toRepo xs) (decL ys) (.node s (toRows us) (decL vs)) n) bt false) (cond (mgO (Gr.toRepo xs) (decL ys) (.node s (toRows us) (decL vs)) n) zs (strs (mgP (Gr.toRepo xs) (decL ys) (.node s (toRows us) (decL vs)) n).2.1))),
       V.i (cond (mgO (Gr.toRepo xs) (decL ys) (.node s (toRows us) (decL vs)) n) e (mgP (Gr.toRepo xs) (decL ys) (.node s (toRows us) (decL vs)) n).2.2)]])
 | _, _ => none
noncomputable abbrev p110m : Par := par E sh (ctOf [(57, s57), (111, s111), (112, Gr.s112), (113, s113)]) 110 4 5
abbrev mvH (nl : OBo) (tt : Bool) (xs : LLC) (kn : OBo) (kt : Bool) (ys : LLC) (s : Bys) (us vs : LLC) (k : Int) (bn : OBo) (bt : Bool) (zs : LLC) (e : Int) (nl2 : OBo) (t2 : Bool) (xs2 : LLC) (kn2 : OBo) (kt2 : Bool) (ys2 : LLC) (n : Int) (n1 : OBo) (t1 : Bool) (ks : LLC) : Hp := [O.box [V.ptr 1 0 0 0], O.box [V.c (C.sl 2 nl tt xs), V.c (C.sl 3 kn kt ys), V.c (C.str s), V.c (C.sl 5 none false us), V.c (C.sl 3 none false vs), V.c (C.int IntKind.i64 k), V.c (C.sl 1 bn bt zs), V.c (C.int IntKind.i64 e)], O.box [V.c (C.sl 2 nl2 t2 xs2), V.c (C.sl 3 kn2 kt2 ys2)], O.box [V.c (C.int IntKind.i64 n)], O.box [V.c (C.sl 1 n1 t1 ks)]]
abbrev mvG (nl : OBo) (tt : Bool) (xs : LLC) (kn : OBo) (kt : Bool) (ys : LLC) (s : Bys) (us vs : LLC) (k : Int) (bn : OBo) (bt : Bool) (zs : LLC) (e : Int) (nl2 : OBo) (t2 : Bool) (xs2 : LLC) (kn2 : OBo) (kt2 : Bool) (ys2 : LLC) (n : Int) (n1 : OBo) (t1 : Bool) (ks : LLC) : Fr × Hp := ([(3, V.ptr 4 0 0 0), (4, V.ptr 5 0 0 0), (11, V.fn 146 [V.ptr 6 0 0 0])], [O.box [V.ptr 1 0 0 0], O.box [V.c (C.sl 2 nl tt xs), V.c (C.sl 3 kn kt ys), V.c (C.str s), V.c (C.sl 5 none false us), V.c (C.sl 3 none false vs), V.c (C.int IntKind.i64 k), V.c (C.sl 1 bn bt zs), V.c (C.int IntKind.i64 e)], O.box [V.c (C.sl 2 nl2 t2 xs2), V.c (C.sl 3 kn2 kt2 ys2)], O.box [V.c (C.int IntKind.i64 n)], O.box [V.c (C.sl 1 n1 t1 ks)], O.box [V.fn 57 [V.ptr 0 0 0 0]], O.gone])
theorem t110m (nl : OBo) (tt : Bool) (xs : LLC) (kn : OBo) (kt : Bool) (ys : LLC) (s : Bys) (us vs : LLC) (k : Int) (bn : OBo) (bt : Bool) (zs : LLC) (e : Int) (nl2 : OBo) (t2 : Bool) (xs2 : LLC) (kn2 : OBo) (kt2 : Bool) (ys2 : LLC) (n : Int) (n1 : OBo) (t1 : Bool) (ks : LLC) : p110m.ft [V.fn 57 [V.ptr 0 0 0 0], V.ptr 2 0 0 0, V.ptr 3 0 0 0, V.ptr 4 0 0 0] (mvH nl tt xs kn kt ys s us vs k bn bt zs e nl2 t2 xs2 kn2 kt2 ys2 n n1 t1 ks) = (Tr.chk (Gr.isRepo xs2) (Tr.chk (Gr.smallB (Gr.toRepo xs2)) (Tr.rs 0 ([(3, V.ptr 4 0 0 0), (4, V.ptr 5 0 0 0), (11, V.fn 146 [V.ptr 6 0 0 0])], [O.box [V.ptr 1 0 0 0], O.box [V.c (C.sl 2 nl tt xs), V.c (C.sl 3 kn kt ys), V.c (C.str s), V.c (C.sl 5 none false us), V.c (C.sl 3 none false vs), V.c (C.int IntKind.i64 k), V.c (C.sl 1 bn bt zs), V.c (C.int IntKind.i64 e)], O.box [V.c (C.sl 2 nl2 t2 xs2), V.c (C.sl 3 kn2 kt2 ys2)], O.box [V.c (C.int IntKind.i64 n)], O.box [V.c (C.sl 1 n1 t1 ks)], O.box [V.fn 57 [V.ptr 0 0 0 0]], O.box [V.c (C.sl 1 none false (ints (Gr.firstG (Gr.toRepo xs2) n)))]])))) := by kernel_rfl
theorem k110mn (nl : OBo) (tt : Bool) (xs : LLC) (kn : OBo) (kt : Bool) (ys : LLC) (s : Bys) (us vs : LLC) (k : Int) (bn : OBo) (bt : Bool) (zs : LLC) (e : Int) (nl2 : OBo) (t2 : Bool) (xs2 : LLC) (kn2 : OBo) (kt2 : Bool) (ys2 : LLC) (n : Int) (n1 : OBo) (t1 : Bool) (ks : LLC) : p110m.fkx 0 (Ex.nrm, mvG nl tt xs kn kt ys s us vs k bn bt zs e nl2 t2 xs2 kn2 kt2 ys2 n n1 t1 ks) = Tr.leaf (R.out [] (mvH nl tt xs kn kt ys s us vs k bn bt zs e nl2 t2 xs2 kn2 kt2 ys2 n n1 t1 ks)) := by kernel_rfl
abbrev x110mrx0 (nl : OBo) (tt : Bool) (xs : LLC) (kn : OBo) (kt : Bool) (ys : LLC) (nl2 : OBo) (t2 : Bool) (xs2 : LLC) (kn2 : OBo) (kt2 : Bool) (ys2 : LLC) (n : Int) (n1 : OBo) (t1 : Bool) (ks : LLC) (sh1 : Bys) (nlh1 : OBo) (th1 : Bool) (xsh1 : LLC) (xsh1_1 : LLC) (ih1 : Int) (nlh1_1 : OBo) (th1_1 : Bool) (xsh1_2 : LLC) (ih1_1 : Int) : Ex × Fr × Hp := (Ex.ret, [(3, V.ptr 4 0 0 0), (4, V.ptr 5 0 0 0), (11, V.fn 146 [V.ptr 6 0 0 0])], [O.box [V.ptr 1 0 0 0], O.box [V.c (C.sl 2 nl tt xs), V.c (C.sl 3 kn kt ys), V.c (C.str sh1), V.c (C.sl 5 nlh1 th1 xsh1), V.c (C.sl 3 nlh1 th1 xsh1_1), V.c (C.int IntKind.i64 ih1), V.c (C.sl 1 nlh1_1 th1_1 xsh1_2), V.c (C.int IntKind.i64 ih1_1)], O.box [V.c (C.sl 2 nl2 t2 xs2), V.c (C.sl 3 kn2 kt2 ys2)], O.box [V.c (C.int IntKind.i64 n)], O.box [V.c (C.sl 1 n1 t1 ks)], O.box [V.fn 57 [V.ptr 0 0 0 0]], O.gone])
abbrev c110mr_1 (s : Bys) (us : LLC) (vs : LLC) := (Nd.node s (toRows us) (decL vs))
abbrev c110mr_2 (xs : LLC) (ys : LLC) (s : Bys) (us : LLC) (vs : LLC) (x : Int) := (mgP (Gr.toRepo xs) (decL ys) (c110mr_1 s us vs) x)
theorem t110mr (nl : OBo) (tt : Bool) (xs : LLC) (kn : OBo) (kt : Bool) (ys : LLC) (s : Bys) (us : LLC) (vs : LLC) (k : Int) (bn : OBo) (bt : Bool) (zs : LLC) (e : Int) (nl2 : OBo) (t2 : Bool) (xs2 : LLC) (kn2 : OBo) (kt2 : Bool) (ys2 : LLC) (n : Int) (n1 : OBo) (t1 : Bool) (ks : LLC) (i : Int) (x : Int) : p110m.rts (loopAt (codeOf p110m.E p110m.g) 0) [V.i i, V.i x] ([(3, V.ptr 4 0 0 0), (4, V.ptr 5 0 0 0), (11, V.fn 146 [V.ptr 6 0 0 0])], [O.box [V.ptr 1 0 0 0], O.box [V.c (C.sl 2 nl tt xs), V.c (C.sl 3 kn kt ys), V.c (C.str s), V.c (C.sl 5 none false us), V.c (C.sl 3 none false vs), V.c (C.int IntKind.i64 k), V.c (C.sl 1 bn bt zs), V.c (C.int IntKind.i64 e)], O.box [V.c (C.sl 2 nl2 t2 xs2), V.c (C.sl 3 kn2 kt2 ys2)], O.box [V.c (C.int IntKind.i64 n)], O.box [V.c (C.sl 1 n1 t1 ks)], O.box [V.fn 57 [V.ptr 0 0 0 0]], O.gone]) = (Tr.chk (isInts ks) (Tr.chk (decide (ks.length <= 4294967296)) (Tr.br ((toInts ks).contains x) (Tr.leaf (R.st Ex.nrm [(3, V.ptr 4 0 0 0), (4, V.ptr 5 0 0 0), (11, V.fn 146 [V.ptr 6 0 0 0])] [O.box [V.ptr 1 0 0 0], O.box [V.c (C.sl 2 nl tt xs), V.c (C.sl 3 kn kt ys), V.c (C.str s), V.c (C.sl 5 none false us), V.c (C.sl 3 none false vs), V.c (C.int IntKind.i64 k), V.c (C.sl 1 bn bt zs), V.c (C.int IntKind.i64 e)], O.box [V.c (C.sl 2 nl2 t2 xs2), V.c (C.sl 3 kn2 kt2 ys2)], O.box [V.c (C.int IntKind.i64 n)], O.box [V.c (C.sl 1 n1 t1 ks)], O.box [V.fn 57 [V.ptr 0 0 0 0]], O.gone])) (Tr.chk (isRows us) (Tr.chk (isL vs) (Tr.chk (Gr.isRepo xs) (Tr.chk (isL ys) (Tr.chk (decide (1 <= x)) (Tr.chk (decide (x <= (↑xs.length : Int))) (Tr.chk (decide (x <= (↑ys.length : Int))) (Tr.chk (decide (xs.length <= 4294967296)) (Tr.chk (decide (ys.length <= 4294967296)) (Tr.chk (baseOk (Gr.toRepo xs) (decL ys) x) (Tr.chk (decide (0 <= k)) (Tr.chk (decide (k < 4294967296)) (Tr.chk (fewT (decL ys)) (Tr.chk (decide ((entL (decL vs)).length < 1000000000)) (Tr.chk (decide ((entL (baseN (Gr.toRepo xs) (decL ys) x).kids).length < 1000000000)) (Tr.br (!mgO (Gr.toRepo xs) (decL ys) (c110mr_1 s us vs) x) (Tr.leaf (R.x (x110mrx0 nl tt xs kn kt ys nl2 t2 xs2 kn2 kt2 ys2 n n1 t1 ks ((c110mr_2 xs ys s us vs x).fst.lab) (okN (mgO (Gr.toRepo xs) (decL ys) (c110mr_1 s us vs) x)) (!mgO (Gr.toRepo xs) (decL ys) (c110mr_1 s us vs) x) (rows (c110mr_2 xs ys s us vs x).fst.rows) (encL (c110mr_2 xs ys s us vs x).fst.kids) (bif mgO (Gr.toRepo xs) (decL ys) (c110mr_1 s us vs) x then k + 1 else k) (bif mgO (Gr.toRepo xs) (decL ys) (c110mr_1 s us vs) x then bn else none) (bif mgO (Gr.toRepo xs) (decL ys) (c110mr_1 s us vs) x then bt else false) (bif mgO (Gr.toRepo xs) (decL ys) (c110mr_1 s us vs) x then zs else strs (c110mr_2 xs ys s us vs x).snd.fst) (bif mgO (Gr.toRepo xs) (decL ys) (c110mr_1 s us vs) x then e else (c110mr_2 xs ys s us vs x).snd.snd)))) (Tr.leaf (R.st Ex.nrm [(3, V.ptr 4 0 0 0), (4, V.ptr 5 0 0 0), (11, V.fn 146 [V.ptr 6 0 0 0])] [O.box [V.ptr 1 0 0 0], O.box [V.c (C.sl 2 nl tt xs), V.c (C.sl 3 kn kt ys), V.c (C.str (c110mr_2 xs ys s us vs x).fst.lab), V.c (C.sl 5 (okN (mgO (Gr.toRepo xs) (decL ys) (c110mr_1 s us vs) x)) (!mgO (Gr.toRepo xs) (decL ys) (c110mr_1 s us vs) x) (rows (c110mr_2 xs ys s us vs x).fst.rows)), V.c (C.sl 3 (okN (mgO (Gr.toRepo xs) (decL ys) (c110mr_1 s us vs) x)) (!mgO (Gr.toRepo xs) (decL ys) (c110mr_1 s us vs) x) (encL (c110mr_2 xs ys s us vs x).fst.kids)), V.c (C.int IntKind.i64 (bif mgO (Gr.toRepo xs) (decL ys) (c110mr_1 s us vs) x then k + 1 else k)), V.c (C.sl 1 (bif mgO (Gr.toRepo xs) (decL ys) (c110mr_1 s us vs) x then bn else none) (bif mgO (Gr.toRepo xs) (decL ys) (c110mr_1 s us vs) x then bt else false) (bif mgO (Gr.toRepo xs) (decL ys) (c110mr_1 s us vs) x then zs else strs (c110mr_2 xs ys s us vs x).snd.fst)), V.c (C.int IntKind.i64 (bif mgO (Gr.toRepo xs) (decL ys) (c110mr_1 s us vs) x then e else (c110mr_2 xs ys s us vs x).snd.snd))], O.box [V.c (C.sl 2 nl2 t2 xs2), V.c (C.sl 3 kn2 kt2 ys2)], O.box [V.c (C.int IntKind.i64 n)], O.box [V.c (C.sl 1 n1 t1 ks)], O.box [V.fn 57 [V.ptr 0 0 0 0]], O.gone]))))))))))))))))))))) := by kernel_rfl
end Go.Proofs.YtgaabjmbnomimaaDoor
namespace Go.Proofs.YtgaabjmbnomimaaDoor
open Go Go.Ev
theorem mg_nd0 {l : List Gr.Cm} {ts : List Nd} {t : Nd} {n : Int} (h : mgO l ts t n = false) : (mgP l ts t n).1 = nd0 := by
 unfold mgO mgP at *
 unfold mergeP at *
 split at h
 · split at h
   · simp at h
   · rename_i h1 h2; rw [if_pos h1, if_neg h2]
 · rename_i h1; rw [if_neg h1]
section
variable (l : List Gr.Cm) (ts : List Nd) (nl : OBo) (tt : Bool) (kn : OBo) (kt : Bool)
abbrev mvB (s : Bys) (rn : OBo) (rt : Bool) (us : LLC) (qn : OBo) (qt : Bool) (vs : LLC) (k : Int) (bn : OBo) (bt : Bool) (zs : LLC) (e : Int) : O :=
 .box [.c (.sl 2 nl tt (Gr.repo l)), .c (.sl 3 kn kt (encL ts)), .c (.str s), .c (.sl 5 rn rt us), .c (.sl 3 qn qt vs), V.i k, .c (.sl 1 bn bt zs), V.i e]
theorem f58 (t : Nd) (k : Int) (bn : OBo) (bt : Bool) (zs : LLC) (e n : Int) (h1 : 1 <= n) (h2 : n <= l.length) (h3 : n <= ts.length) (hl : l.length <= 4294967296) (htl : ts.length <= 4294967296) (hbo : baseOk l ts n = true) (k0 : 0 <= k) (k1 : k < 4294967296) (hf : fewT ts = true) (ht : (entL t.kids).length < 1000000000) (hb : (entL (baseN l ts n).kids).length < 1000000000) :
   call E 58 [.ptr 0 0 0 0, V.i n] [mvB l ts nl tt kn kt t.lab none false (rows t.rows) none false (encL t.kids) k bn bt zs e] = some ([V.b (mgO l ts t n)],
     [mvB l ts nl tt kn kt (mgP l ts t n).1.lab (okN (mgO l ts t n)) (!mgO l ts t n) (rows (mgP l ts t n).1.rows) (okN (mgO l ts t n)) (!mgO l ts t n) (encL (mgP l ts t n).1.kids) (cond (mgO l ts t n) (k + 1) k) (cond (mgO l ts t n) bn none) (cond (mgO l ts t n) bt false) (cond (mgO l ts t n) zs (strs (mgP l ts t n).2.1)) (cond (mgO l ts t n) e (mgP l ts t n).2.2)]) := by
 have hct : (ctOf [(54, s54), (43, s43)]).ok E := ctOf_cons s54_ok (ctOf_cons s43_ok ctOf_nil)
 refine call_of (E := E) (sh := sh) (ct := ctOf [(54, s54), (43, s43)]) (na := 2) (m := 1) hct rfl rfl rfl rfl rfl rfl ?_
 show p58.fd (p58.ft [.ptr 0 0 0 0, V.i n] [.box [.c (.sl 2 nl tt (Gr.repo l)), .c (.sl 3 kn kt (encL ts)), .c (.str t.lab), .c (.sl 5 none false (rows t.rows)), .c (.sl 3 none false (encL t.kids)), V.i k, .c (.sl 1 bn bt zs), V.i e]]) = some (.out _ _)
 rw [t58]
 obtain ⟨q1, q2⟩ := treeN_at (ts := ts) h1 h3
 have hx := fewT_at hf h1 h3
 rw [q2] at hx
 have c1 : c58_1 (encL ts) n = ts[(n - 1).toNat].enc := by unfold c58_1; rw [wrap_p n h1 (by omega), Int.toNat_natCast, encL_getD q1]
 have c2 : c58_2 (Gr.repo l) (encL ts) t.lab (rows t.rows) (encL t.kids) n = mgP l ts t n := by
   unfold c58_2 mgP
   rw [c1, q2]
   simp only [nd_lab, nd_rows, nd_kids, decL_enc, toRows_rows, Gr.toRepo_repo, Nd.eta]
 have hd := mg_nd0 (l := l) (ts := ts) (t := t) (n := n)
 simp only [c1, c2, nd_ok, nd_rows, nd_kids, encL_length, isL_enc, decL_enc, fd_br, fd_chk', fd_leaf, decide_true, if_true, Int.toNat_natCast, Int.natCast_nonneg, bne_iff_ne, ne_eq, isRows_rows, Gr.isRepo_repo, Gr.toRepo_repo, Gr.repo_length, h1, h2, hl, htl, hbo, wrap_p n h1 (by omega), q1, hx, ht, hb]
 cases ho : mgO l ts t n with
 | true =>
   have hz : (mgP l ts t n).2.2 = 0 := by simpa [mgO] using ho
   have wk : IntKind.wrap .i64 (k + 1) = k + 1 := wrap_same (by omega) (by omega)
   rw [if_neg (by simp [hz]), wk]; rfl
 | false =>
   have hz : ¬ (mgP l ts t n).2.2 = 0 := by simpa [mgO] using ho
   rw [if_pos hz, hd ho]; rfl
end
theorem s58_ok : CSpecOk E 58 s58 := by
 intro a h cs vals h' he hc
 unfold s58 at he
 split at he <;> simp only [Option.some.injEq, Prod.mk.injEq, reduceCtorEq] at he
 rename_i n nl tt xs kn kt ys s us vs k bn bt zs e
 obtain ⟨rfl, rfl, rfl⟩ := he
 simp only [allT, mgC, Bool.and_true, Bool.and_eq_true, decide_eq_true_eq] at hc
 obtain ⟨a1, a2, a3, a4, a5, a6, a7, a8, a9, a10, a11, a12, a13, a14, a15⟩ := hc
 obtain ⟨l, rfl⟩ := repo_ex a3
 obtain ⟨ts, rfl⟩ := isL_ex a4
 obtain ⟨rs, rfl⟩ := rows_ex a1
 obtain ⟨ks, rfl⟩ := isL_ex a2
 simp only [Gr.toRepo_repo, Gr.repo_length, encL_length, decL_enc, toRows_rows] at *
 exact f58 l ts nl tt kn kt (.node s rs ks) k bn bt zs e n a5 a6 a7 a8 a9 a10 a11 a12 a13 a14 a15
theorem s57_ok : CSpecOk E 57 s57 := by
 intro a h cs vals h' he hc
 unfold s57 at he
 split at he <;> simp only [Option.some.injEq, Prod.mk.injEq, reduceCtorEq] at he
 rename_i n nl tt xs kn kt ys s us vs k bn bt zs e
 obtain ⟨rfl, rfl, rfl⟩ := he
 simp only [allT, mgC, Bool.and_true, Bool.and_eq_true, decide_eq_true_eq] at hc
 obtain ⟨a1, a2, a3, a4, a5, a6, a7, a8, a9, a10, a11, a12, a13, a14, a15⟩ := hc
 refine call_of (E := E) (sh := sh) (ct := ctOf [(58, s58)]) (na := 2) (m := 2) (ctOf_cons s58_ok ctOf_nil) rfl rfl rfl rfl rfl rfl ?_
 rw [show p57.ft _ _ = _ from t57 nl tt xs kn kt ys s us vs k bn bt zs e n]
 simp only [fd_chk', fd_leaf, a1, a2, a3, a4, a5, a6, a7, a8, a9, a10, a11, a12, a13, a14, a15, decide_true, if_true]
theorem k110mx (nl : OBo) (tt : Bool) (xs : LLC) (kn : OBo) (kt : Bool) (ys : LLC) (nl2 : OBo) (t2 : Bool) (xs2 : LLC) (kn2 : OBo) (kt2 : Bool) (ys2 : LLC) (n : Int) (n1 : OBo) (t1 : Bool) (ks : LLC) (s : Bys) (rn : OBo) (rt : Bool) (us : LLC) (vs : LLC) (k : Int) (bn : OBo) (bt : Bool) (zs : LLC) (e : Int) :
   p110m.fkx 0 (x110mrx0 nl tt xs kn kt ys nl2 t2 xs2 kn2 kt2 ys2 n n1 t1 ks s rn rt us vs k bn bt zs e) = Tr.leaf (R.out [] [O.box [V.ptr 1 0 0 0], O.box [V.c (C.sl 2 nl tt xs), V.c (C.sl 3 kn kt ys), V.c (C.str s), V.c (C.sl 5 rn rt us), V.c (C.sl 3 rn rt vs), V.c (C.int IntKind.i64 k), V.c (C.sl 1 bn bt zs), V.c (C.int IntKind.i64 e)], O.box [V.c (C.sl 2 nl2 t2 xs2), V.c (C.sl 3 kn2 kt2 ys2)], O.box [V.c (C.int IntKind.i64 n)], O.box [V.c (C.sl 1 n1 t1 ks)]]) := by kernel_rfl
section
variable (l : List Gr.Cm) (ts : List Nd) (nl : OBo) (tt : Bool) (kn : OBo) (kt : Bool) (nl2 : OBo) (t2 : Bool) (kn2 : OBo) (kt2 : Bool) (ys2 : LLC) (n : Int) (n1 : OBo) (t1 : Bool) (zs : List Int)
def mvE (r : Nd × Int × List (List UInt8) × Int) : Hp := [.box [.ptr 1 0 0 0],
 mvB l ts nl tt kn kt r.1.lab (okN (decide (r.2.2.2 = 0))) (!decide (r.2.2.2 = 0)) (rows r.1.rows) (okN (decide (r.2.2.2 = 0))) (!decide (r.2.2.2 = 0)) (encL r.1.kids) r.2.1 (cond (decide (r.2.2.2 = 0)) (some true) none) (cond (decide (r.2.2.2 = 0)) true false) (cond (decide (r.2.2.2 = 0)) [] (strs r.2.2.1)) r.2.2.2,
 .box [.c (.sl 2 nl2 t2 (Gr.repo l)), .c (.sl 3 kn2 kt2 ys2)], .box [V.i n], .box [.c (.sl 1 n1 t1 (ints zs))]]
theorem f110m (t0 : Nd) (w : Wd l ts) (hs : Gr.smallB l = true) (hz : zs.length <= 4294967296) (hts : ∀ t ∈ ts, szT t <= 100000) (ht0 : szT t0 <= 100000) :
   call E 110 [.fn 57 [.ptr 0 0 0 0], .ptr 2 0 0 0, .ptr 3 0 0 0, .ptr 4 0 0 0] (mvH nl tt (Gr.repo l) kn kt (encL ts) t0.lab (rows t0.rows) (encL t0.kids) 0 (some true) true [] 0 nl2 t2 (Gr.repo l) kn2 kt2 ys2 n n1 t1 (ints zs)) =
     some ([], mvE l ts nl tt kn kt nl2 t2 kn2 kt2 ys2 n n1 t1 zs (movF l ts (commitsP l n zs) t0 0)) := by
 have hct : (ctOf [(57, s57), (111, s111), (112, Gr.s112), (113, s113)]).ok E := ctOf_cons s57_ok (ctOf_cons s111_ok (ctOf_cons Gr.s112_ok (ctOf_cons s113_ok ctOf_nil)))
 refine call_of (E := E) (sh := sh) (ct := ctOf [(57, s57), (111, s111), (112, Gr.s112), (113, s113)]) (na := 4) (m := 5) hct rfl rfl rfl rfl rfl rfl ?_
 show p110m.fd (p110m.ft [.fn 57 [.ptr 0 0 0 0], .ptr 2 0 0 0, .ptr 3 0 0 0, .ptr 4 0 0 0] (mvH nl tt (Gr.repo l) kn kt (encL ts) t0.lab (rows t0.rows) (encL t0.kids) 0 (some true) true [] 0 nl2 t2 (Gr.repo l) kn2 kt2 ys2 n n1 t1 (ints zs))) = some (.out _ _)
 rw [t110m]
 simp only [fd_chk', Gr.isRepo_repo, Gr.toRepo_repo, hs, if_true]
 have hF := firstG_len l n
 have hmem : ∀ x ∈ Gr.firstG l n, 1 <= x /\ x <= l.length := fun x hx => by
   by_cases hh : Gr.hasG l [n] = true
   · have h3 := Gr.noNum_iff.1 ((Gr.has_right hh).2 n (by simp))
     obtain ⟨r, e, hc⟩ := firstG_chn w.right h3.1 h3.2
     exact hc.mem x (by rw [<- e]; exact hx)
   · rw [Gr.firstG, if_neg hh] at hx; simp at hx
 have hlen := w.len
 have hl5 := Gr.right_len w.right
 have hf : fewT ts = true := by
   rw [fewT, List.all_eq_true]
   intro t ht
   have := hts t ht
   unfold szT at this
   exact decide_eq_true (by omega)
 have hsx : ∀ x : Int, 1 <= x -> x <= ts.length -> szT (treeN ts x) <= 100000 := fun x x1 x2 => by
   obtain ⟨k1, k2⟩ := treeN_at x1 x2
   rw [k2]; exact hts _ (List.getElem_mem k1)
 have hbx : ∀ x : Int, 1 <= x -> x <= l.length -> szT (baseN l ts x) <= 100000 := fun x x1 x2 => by
   have hb := (w.base x1 x2).2
   unfold baseN
   cases hp : parsN l x with
   | nil => exact Nat.zero_le _
   | cons p r => exact hsx p (hb p r hp).1 (hb p r hp).2
 have hL : commitsP l n zs = ((backI (Gr.firstG l n) 0).filter fun x => !zs.contains x.2).map Prod.snd := by
   unfold commitsP
   rw [<- backI_snd (Gr.firstG l n) 0, List.filter_map]; rfl
 have hBm : ∀ x ∈ backI (Gr.firstG l n) 0, 1 <= x.2 /\ x.2 <= l.length := fun x hx => by
   refine hmem x.2 ?_
   have : x.2 ∈ (backI (Gr.firstG l n) 0).map Prod.snd := List.mem_map_of_mem hx
   rw [backI_snd] at this
   exact List.mem_reverse.1 this
 have hBl := backI_len (Gr.firstG l n) 0
 rw [hL]
 generalize Gr.firstG l n = F at *
 generalize hB : backI F 0 = B at *
 refine fd_rpost hct (by kernel_rfl) rfl (ranges_post (p := p110m) hct (c := loopAt (codeOf p110m.E p110m.g) 0) (gi := 146) (caps := [.ptr 6 0 0 0]) (args := [.yl 1, .ptr 0 0 0 0])
   (h0 := [.box [.c (.sl 1 none false (ints F))]]) (ids := [6]) (by kernel_rfl) B encB rfl (by kernel_rfl) (by rw [<- hB]; exact seq146 F none false)
   (fun u' b' hw' => ⟨_, _, f146 none false F (by omega) u' b' (by rw [hB]; exact hw'), rfl⟩)
   (fun (s : Nd × Int) => mvG nl tt (Gr.repo l) kn kt (encL ts) s.1.lab (rows s.1.rows) (encL s.1.kids) s.2 (some true) true [] 0 nl2 t2 (Gr.repo l) kn2 kt2 ys2 n n1 t1 (ints zs))
   (fun (L : List (Int × Int)) s => movF l ts ((L.filter fun x => !zs.contains x.2).map Prod.snd) s.1 s.2 = movF l ts ((B.filter fun x => !zs.contains x.2).map Prod.snd) t0 0 /\ ∃ j : Nat, L = B.drop j /\ j <= B.length /\ 0 <= s.2 /\ s.2 <= j /\ szT s.1 <= 200001 * j + 100000) _ ?_ ?_ (t0, 0) rfl ⟨rfl, 0, rfl, Nat.zero_le _, Int.le_refl _, Int.le_refl _, by simpa using ht0⟩)
 · rintro ⟨i, x⟩ L ⟨t, k⟩ ⟨hm, j, hj, hjl, k0, k1, hsz⟩
   simp only at hm k0 k1 hsz
   have hj2 : j < B.length := by
     rcases Nat.lt_or_ge j B.length with h | h
     · exact h
     · rw [List.drop_of_length_le h] at hj; cases hj
   have hxm := hBm (i, x) (List.mem_of_mem_drop (hj ▸ List.mem_cons_self))
   simp only at hxm
   rw [List.drop_eq_getElem_cons hj2] at hj
   simp only [List.cons.injEq] at hj
   obtain ⟨hj3, rfl⟩ := hj
   have e0 := t110mr nl tt (Gr.repo l) kn kt (encL ts) t.lab (rows t.rows) (encL t.kids) k (some true) true [] 0 nl2 t2 (Gr.repo l) kn2 kt2 ys2 n n1 t1 (ints zs) i x
   by_cases hc : zs.contains x = true
   · refine .inl ⟨(t, k), ⟨?_, j + 1, rfl, by omega, k0, by dsimp only; omega, by dsimp only; omega⟩, ?_⟩
     · rw [<- hm, List.filter_cons, if_neg (by show ¬ (!zs.contains x) = true; rw [hc]; simp)]
     · refine (congrArg _ e0).trans ?_
       simp only [rd_chk', rd_br, rd_leaf, isInts_ints, toInts_ints, ints_length, hz, decide_true, if_true, hc]
   · rw [Bool.not_eq_true] at hc
     rw [List.filter_cons, if_pos (by show (!zs.contains x) = true; rw [hc]; rfl), List.map_cons, movF] at hm
     have hk2 : k < 4294967296 := by omega
     have hbo := (w.base hxm.1 hxm.2).1
     have hs1 := hbx x hxm.1 hxm.2
     have hs2 := hsx x hxm.1 (by omega)
     have hms := mergeP_size (baseN l ts x) t (treeN ts x)
     have hc1 : c110mr_1 t.lab (rows t.rows) (encL t.kids) = t := by unfold c110mr_1; rw [toRows_rows, decL_enc, Nd.eta]
     have hc2 : c110mr_2 (Gr.repo l) (encL ts) t.lab (rows t.rows) (encL t.kids) x = mgP l ts t x := by unfold c110mr_2; rw [hc1, Gr.toRepo_repo, decL_enc]
     have hst : (entL t.kids).length < 1000000000 := by unfold szT at hsz; omega
     have hsb : (entL (baseN l ts x).kids).length < 1000000000 := by unfold szT at hs1; omega
     unfold szT at hs1 hs2 hsz
     cases ho : mgO l ts t x with
     | true =>
       have hz0 : (mergeP (baseN l ts x) t (treeN ts x)).2.2 = 0 := of_decide_eq_true ho
       rw [if_pos hz0] at hm
       refine .inl ⟨((mgP l ts t x).1, k + 1), ⟨hm, j + 1, rfl, by omega, by dsimp only; omega, by dsimp only; omega, ?_⟩, ?_⟩
       · show (entL (mgP l ts t x).1.kids).length <= _
         unfold mgP; omega
       · refine (congrArg _ e0).trans ?_
         simp only [hc1, hc2, rd_chk', rd_br, rd_leaf, isInts_ints, toInts_ints, ints_length, isRows_rows, isL_enc, Gr.isRepo_repo, Gr.toRepo_repo, Gr.repo_length, encL_length, decL_enc, hz, decide_true, if_true, hc, Bool.false_eq_true, if_false, hxm.1, hxm.2, show x <= (ts.length : Int) by omega, show l.length <= 4294967296 by omega, show ts.length <= 4294967296 by omega, hbo, k0, hk2, hf, hst, hsb, ho, Bool.not_true, okN, cond_true]
     | false =>
       have hz0 : ¬ (mergeP (baseN l ts x) t (treeN ts x)).2.2 = 0 := of_decide_eq_false ho
       rw [if_neg hz0] at hm
       have hd := mg_nd0 ho
       refine .inr ⟨x110mrx0 nl tt (Gr.repo l) kn kt (encL ts) nl2 t2 (Gr.repo l) kn2 kt2 ys2 n n1 t1 (ints zs) (mgP l ts t x).1.lab (some true) true (rows (mgP l ts t x).1.rows) (encL (mgP l ts t x).1.kids) k none false (strs (mgP l ts t x).2.1) (mgP l ts t x).2.2, by simp, ?_, ?_⟩
       · rw [k110mx, fd_leaf, <- hm]
         unfold mvE
         have hz1 : ¬ (mgP l ts t x).2.2 = 0 := hz0
         have e1 : mergeP (baseN l ts x) t (treeN ts x) = mgP l ts t x := rfl
         simp only [hd, e1, decide_eq_false hz1, okN, cond_false, Bool.not_false]
       · refine (congrArg _ e0).trans ?_
         simp only [hc1, hc2, rd_chk', rd_br, rd_leaf, isInts_ints, toInts_ints, ints_length, isRows_rows, isL_enc, Gr.isRepo_repo, Gr.toRepo_repo, Gr.repo_length, encL_length, decL_enc, hz, decide_true, if_true, hc, Bool.false_eq_true, if_false, hxm.1, hxm.2, show x <= (ts.length : Int) by omega, show l.length <= 4294967296 by omega, show ts.length <= 4294967296 by omega, hbo, k0, hk2, hf, hst, hsb, ho, Bool.not_false, okN, cond_false]
 · rintro ⟨t, k⟩ ⟨hm, _⟩
   simp only [List.filter_nil, List.map_nil, movF] at hm
   show p110m.fd (p110m.fkx 0 (Ex.nrm, mvG nl tt (Gr.repo l) kn kt (encL ts) t.lab (rows t.rows) (encL t.kids) k (some true) true [] 0 nl2 t2 (Gr.repo l) kn2 kt2 ys2 n n1 t1 (ints zs))) = _
   rw [k110mn, fd_leaf, <- hm]; rfl
end
end Go.Proofs.YtgaabjmbnomimaaDoor
namespace Go.Proofs.YtgaabjmbnomimaaDoor
open Go Go.Ev
def rowV (n : Int) : Row := ⟨0, 9, ⟨1, n, []⟩⟩
def leaf1 (b : UInt8) (n : Int) : Nd := .node [b] [rowV n] []
def tA1 : Nd := .node [] [] [leaf1 97 49]
def tA1B2 : Nd := .node [] [] [leaf1 97 49, leaf1 98 50]
def tA5 : Nd := .node [] [] [leaf1 97 53]
def tA5B2 : Nd := .node [] [] [leaf1 97 53, leaf1 98 50]
def threeV : V := .agg [.c (.sl 2 none false [[.sl 1 (some true) true [], .int .i64 1], [.sl 1 (some false) true [[.int .i64 1]], .int .i64 2], [.sl 1 (some false) true [[.int .i64 1]], .int .i64 3]]), .c (.sl 3 none false (encL [tA1, tA1B2, tA5]))]
set_option maxRecDepth 100000
theorem pt50 : call E 50 [] [] = some ([threeV], []) := call_iff.2 ⟨300, by kernel_rfl⟩
theorem pt51a : call E 51 [.c (.str [97, 53, 98, 50])] [] = some ([VT tA5B2], []) := call_iff.2 ⟨300, by kernel_rfl⟩
theorem pt51b : call E 51 [.c (.str [97, 49])] [] = some ([VT tA1], []) := call_iff.2 ⟨300, by kernel_rfl⟩
theorem pt16 : call E 16 [threeV, V.i 2, V.i 3] [] = some ([VT tA5B2, .c (.sl 1 none false []), V.i 0], []) := call_iff.2 ⟨400, by kernel_rfl⟩
theorem pt18 : call E 18 [threeV, V.i 3, V.i 3] [] = some ([VT tA1, .c (.sl 1 none false []), V.i 0], []) := call_iff.2 ⟨400, by kernel_rfl⟩
end Go.Proofs.YtgaabjmbnomimaaDoor
namespace Go.Proofs.YtgaabjmbnomimaaDoor
open Go Go.Ev
set_option maxRecDepth 100000
theorem pt19 : call E 19 [threeV, V.i 3, V.i 2] [] = some ([.c (.sl 1 none false [[.int .i64 2]]), V.i 0], []) := call_iff.2 ⟨800, by kernel_rfl⟩
end Go.Proofs.YtgaabjmbnomimaaDoor
namespace Go.Proofs.YtgaabjmbnomimaaDoor
open Go Go.Ev
set_option maxRecDepth 100000
def s50 : CSpec := fun a h => match a, h with
 | [], [] => some ([], [threeV], [])
 | _, _ => none
theorem s50_ok : CSpecOk E 50 s50 := by
 intro a h cs vals h' he hc
 unfold s50 at he
 split at he <;> simp only [Option.some.injEq, Prod.mk.injEq, reduceCtorEq] at he
 obtain ⟨rfl, rfl, rfl⟩ := he
 exact pt50
def s51 : CSpec := fun a h => match a, h with
 | [.c (.str s)], [] => some ([decide (s = [97, 53, 98, 50] \/ s = [97, 49])], [VT (if s = [97, 53, 98, 50] then tA5B2 else tA1)], [])
 | _, _ => none
theorem s51_ok : CSpecOk E 51 s51 := by
 intro a h cs vals h' he hc
 unfold s51 at he
 split at he <;> simp only [Option.some.injEq, Prod.mk.injEq, reduceCtorEq] at he
 rename_i s
 obtain ⟨rfl, rfl, rfl⟩ := he
 simp only [allT, Bool.and_true, decide_eq_true_eq] at hc
 by_cases h0 : s = [97, 53, 98, 50]
 · rw [if_pos h0, h0]; exact pt51a
 · rw [if_neg h0, hc.resolve_left h0]; exact pt51b
def s16p : CSpec := fun a h => match a, h with
 | [w, .c (.int .i64 n), .c (.int .i64 m)], [] => some ([eqbV [w] [threeV], decide (n = 2), decide (m = 3)], [VT tA5B2, .c (.sl 1 none false []), V.i 0], [])
 | _, _ => none
theorem s16p_ok : CSpecOk E 16 s16p := by
 intro a h cs vals h' he hc
 unfold s16p at he
 split at he <;> simp only [Option.some.injEq, Prod.mk.injEq, reduceCtorEq] at he
 rename_i w n m
 obtain ⟨rfl, rfl, rfl⟩ := he
 simp only [allT, Bool.and_true, Bool.and_eq_true, decide_eq_true_eq] at hc
 obtain ⟨h1, rfl, rfl⟩ := hc
 have := eqbV_eq h1
 simp only [List.cons.injEq, and_true] at this
 rw [this]; exact pt16
def s18p : CSpec := fun a h => match a, h with
 | [w, .c (.int .i64 n), .c (.int .i64 m)], [] => some ([eqbV [w] [threeV], decide (n = 3), decide (m = 3)], [VT tA1, .c (.sl 1 none false []), V.i 0], [])
 | _, _ => none
theorem s18p_ok : CSpecOk E 18 s18p := by
 intro a h cs vals h' he hc
 unfold s18p at he
 split at he <;> simp only [Option.some.injEq, Prod.mk.injEq, reduceCtorEq] at he
 rename_i w n m
 obtain ⟨rfl, rfl, rfl⟩ := he
 simp only [allT, Bool.and_true, Bool.and_eq_true, decide_eq_true_eq] at hc
 obtain ⟨h1, rfl, rfl⟩ := hc
 have := eqbV_eq h1
 simp only [List.cons.injEq, and_true] at this
 rw [this]; exact pt18
def s19p : CSpec := fun a h => match a, h with
 | [w, .c (.int .i64 n), .c (.int .i64 m)], [] => some ([eqbV [w] [threeV], decide (n = 3), decide (m = 2)], [.c (.sl 1 none false [[.int .i64 2]]), V.i 0], [])
 | _, _ => none
theorem s19p_ok : CSpecOk E 19 s19p := by
 intro a h cs vals h' he hc
 unfold s19p at he
 split at he <;> simp only [Option.some.injEq, Prod.mk.injEq, reduceCtorEq] at he
 rename_i w n m
 obtain ⟨rfl, rfl, rfl⟩ := he
 simp only [allT, Bool.and_true, Bool.and_eq_true, decide_eq_true_eq] at hc
 obtain ⟨h1, rfl, rfl⟩ := hc
 have := eqbV_eq h1
 simp only [List.cons.injEq, and_true] at this
 rw [this]; exact pt19
theorem pt52 (n : OBo) (t : Bool) (n2 : OBo) (t2 : Bool) : call E 52 [.c (.sl 1 n t [[.int .i64 2]]), .c (.sl 1 n2 t2 [[.int .i64 2]])] [] = some ([V.b true], []) := call_iff.2 ⟨50, by kernel_rfl⟩
def s52p : CSpec := fun a h => match a, h with
 | [.c (.sl 1 n t [[.int .i64 x]]), .c (.sl 1 n2 t2 [[.int .i64 y]])], [] => some ([decide (x = 2), decide (y = 2)], [V.b true], [])
 | _, _ => none
theorem s52p_ok : CSpecOk E 52 s52p := by
 intro a h cs vals h' he hc
 unfold s52p at he
 split at he <;> simp only [Option.some.injEq, Prod.mk.injEq, reduceCtorEq] at he
 rename_i n t x n2 t2 y
 obtain ⟨rfl, rfl, rfl⟩ := he
 simp only [allT, Bool.and_true, Bool.and_eq_true, decide_eq_true_eq] at hc
 obtain ⟨rfl, rfl⟩ := hc
 exact pt52 n t n2 t2
theorem f15 : call E 15 [] [] = some ([V.b true], []) := by
 have hct : (ctOf [(16, s16p), (17, s17n), (18, s18p), (19, s19p), (50, s50), (51, s51), (52, s52p)]).ok E := ctOf_cons s16p_ok (ctOf_cons s17n_ok (ctOf_cons s18p_ok (ctOf_cons s19p_ok (ctOf_cons s50_ok (ctOf_cons s51_ok (ctOf_cons s52p_ok ctOf_nil))))))
 refine call_of (E := E) (sh := sh) (ct := ctOf [(16, s16p), (17, s17n), (18, s18p), (19, s19p), (50, s50), (51, s51), (52, s52p)]) (na := 0) (m := 0) hct rfl rfl rfl rfl rfl rfl ?_
 kernel_rfl
end Go.Proofs.YtgaabjmbnomimaaDoor
namespace Go.Proofs.YtgaabjmbnomimaaDoor
open Go Go.Ev
-- cse
set_option maxHeartbeats 2000000
def smallS (ts : List Nd) : Bool := ts.all fun t => decide (szT t <= 100000)
def s110m : CSpec := fun a h => match a, h with
 | [.fn 57 [.ptr 0 0 0 0], .ptr 2 0 0 0, .ptr 3 0 0 0, .ptr 4 0 0 0], [.box [.ptr 1 0 0 0], .box [.c (.sl 2 nl tt xs), .c (.sl 3 kn kt ys), .c (.str s), .c (.sl 5 none false us), .c (.sl 3 none false vs), .c (.int .i64 k), .c (.sl 1 (some true) true []), .c (.int .i64 e)], .box [.c (.sl 2 nl2 t2 xs2), .c (.sl 3 kn2 kt2 ys2)], .box [.c (.int .i64 n)], .box [.c (.sl 1 n1 t1 ks)]] =>
   some ([Gr.isRepo xs, isL ys, isRows us, isL vs, eqbLL xs xs2, Gr.smallB (Gr.toRepo xs), worldOk (Gr.toRepo xs) (decL ys), isInts ks, decide (ks.length <= 4294967296), smallS (decL ys), decide ((entL (decL vs)).length <= 100000), decide (k = 0), decide (e = 0)], [],
     [.box [.ptr 1 0 0 0], .box [.c (.sl 2 nl tt xs), .c (.sl 3 kn kt ys), .c (.str (movF (Gr.toRepo xs) (decL ys) (commitsP (Gr.toRepo xs2) n (toInts ks)) (.node s (toRows us) (decL vs)) 0).1.lab),
       .c (.sl 5 (okN (decide ((movF (Gr.toRepo xs) (decL ys) (commitsP (Gr.toRepo xs2) n (toInts ks)) (.node s (toRows us) (decL vs)) 0).2.2.2 = 0))) (!decide ((movF (Gr.toRepo xs) (decL ys) (commitsP (Gr.toRepo xs2) n (toInts ks)) (.node s (toRows us) (decL vs)) 0).2.2.2 = 0)) (rows (movF (Gr.toRepo xs) (decL ys) (commitsP (Gr.toRepo xs2) n (toInts ks)) (.node s (toRows us) (decL vs)) 0).1.rows)),
       .c (.sl 3 (okN (decide ((movF (Gr.toRepo xs) (decL ys) (commitsP (Gr.toRepo xs2) n (toInts ks)) (.node s (toRows us) (decL vs)) 0).2.2.2 = 0))) (!decide ((movF (Gr.toRepo xs) (decL ys) (commitsP (Gr.toRepo xs2) n (toInts ks)) (.node s (toRows us) (decL vs)) 0).2.2.2 = 0)) (encL (movF (Gr.toRepo xs) (decL ys) (commitsP (Gr.toRepo xs2) n (toInts ks)) (.node s (toRows us) (decL vs)) 0).1.kids)),
       V.i (movF (Gr.toRepo xs) (decL ys) (commitsP (Gr.toRepo xs2) n (toInts ks)) (.node s (toRows us) (decL vs)) 0).2.1,
       .c (.sl 1 (cond (decide ((movF (Gr.toRepo xs) (decL ys) (commitsP (Gr.toRepo xs2) n (toInts ks)) (.node s (toRows us) (decL vs)) 0).2.2.2 = 0)) (some true) none) (cond (decide ((movF (Gr.toRepo xs) (decL ys) (commitsP (Gr.toRepo xs2) n (toInts ks)) (.node s (toRows us) (decL vs)) 0).2.2.2 = 0)) true false) (cond (decide ((movF (Gr.toRepo xs) (decL ys) (commitsP (Gr.toRepo xs2) n (toInts ks)) (.node s (toRows us) (decL vs)) 0).2.2.2 = 0)) [] (strs (movF (Gr.toRepo xs) (decL ys) (commitsP (Gr.toRepo xs2) n (toInts ks)) (.node s (toRows us) (decL vs)) 0).2.2.1))),
       V.i (movF (Gr.toRepo xs) (decL ys) (commitsP (Gr.toRepo xs2) n (toInts ks)) (.node s (toRows us) (decL vs)) 0).2.2.2], .box [.c (.sl 2 nl2 t2 xs2), .c (.sl 3 kn2 kt2 ys2)], .box [V.i n], .box [.c (.sl 1 n1 t1 ks)]])
 | _, _ => none
noncomputable abbrev p20 : Par := par E sh (ctOf [(53, s53), (56, s56), (110, s110m)]) 20 4 0
abbrev c20_1 (ys : LLC) (m : Int) := (ys.getD (IntKind.i64.wrap (m - 1)).toNat [])
abbrev c20_2 (xs : LLC) (ys : LLC) (f : Int) (n : Int) (m : Int) := (movF (Gr.toRepo xs) (decL ys) (commitsP (Gr.toRepo xs) n (toInts (ints (Gr.reachL (Gr.toRepo xs) f)))) (Nd.node ((c20_1 ys m).headD C.pnil).st (toRows ((c20_1 ys m).tail.headD C.pnil).xs) (decL ((c20_1 ys m).tail.tail.headD C.pnil).xs)) 0)
theorem t20 (nl : OBo) (tt : Bool) (xs : LLC) (kn : OBo) (kt : Bool) (ys : LLC) (f : Int) (n : Int) (m : Int) : p20.ft ([V.agg [V.c (C.sl 2 nl tt xs), V.c (C.sl 3 kn kt ys)], V.i f, V.i n, V.i m]) ([]) = (Tr.chk (Gr.isRepo xs) (Tr.chk (Gr.smallB (Gr.toRepo xs)) (Tr.chk (isL ys) (Tr.chk (decide (ys.length <= 4294967296)) (Tr.chk true (Tr.chk true (Tr.br (mayW (Gr.toRepo xs) (decL ys) (toInts [[C.int IntKind.i64 f], [C.int IntKind.i64 n], [C.int IntKind.i64 m]]) != 0) (Tr.leaf (R.out [V.agg [V.c (C.str []), V.c (C.sl 5 none false []), V.c (C.sl 3 none false [])], V.c (C.int IntKind.i64 0), V.c (C.sl 1 none false []), V.c (C.int IntKind.i64 (mayW (Gr.toRepo xs) (decL ys) (toInts [[C.int IntKind.i64 f], [C.int IntKind.i64 n], [C.int IntKind.i64 m]])))] [])) (Tr.chk (decide (0 <= IntKind.i64.wrap (m - 1))) (Tr.chk true (Tr.chk (decide ((IntKind.i64.wrap (m - 1)).toNat < ys.length)) (Tr.chk (shOk [Sk.str, Sk.sl 5, Sk.sl 3] (c20_1 ys m)) (Tr.chk (Gr.isRepo xs) (Tr.chk (Gr.smallB (Gr.toRepo xs)) (Tr.chk (Gr.isRepo xs) (Tr.chk (isL ys) (Tr.chk (isRows ((c20_1 ys m).tail.headD C.pnil).xs) (Tr.chk (isL ((c20_1 ys m).tail.tail.headD C.pnil).xs) (Tr.chk (eqbLL xs xs) (Tr.chk (Gr.smallB (Gr.toRepo xs)) (Tr.chk (worldOk (Gr.toRepo xs) (decL ys)) (Tr.chk (isInts (ints (Gr.reachL (Gr.toRepo xs) f))) (Tr.chk (decide ((ints (Gr.reachL (Gr.toRepo xs) f)).length <= 4294967296)) (Tr.chk (smallS (decL ys)) (Tr.chk (decide ((entL (decL ((c20_1 ys m).tail.tail.headD C.pnil).xs)).length <= 100000)) (Tr.chk true (Tr.chk true (Tr.leaf (R.out [V.agg [V.c (C.str (c20_2 xs ys f n m).fst.lab), V.c (C.sl 5 none false (rows (c20_2 xs ys f n m).fst.rows)), V.c (C.sl 3 none false (encL (c20_2 xs ys f n m).fst.kids))], V.c (C.int IntKind.i64 (c20_2 xs ys f n m).snd.fst), V.c (C.sl 1 none false (bif decide ((c20_2 xs ys f n m).snd.snd.snd = 0) then [] else strs (c20_2 xs ys f n m).snd.snd.fst)), V.c (C.int IntKind.i64 (c20_2 xs ys f n m).snd.snd.snd)] [])))))))))))))))))))))))))))) := by kernel_rfl
def s20 : CSpec := fun a h => match a, h with
 | [.agg [.c (.sl 2 nl tt xs), .c (.sl 3 kn kt ys)], .c (.int .i64 f), .c (.int .i64 n), .c (.int .i64 m)], [] => some ([Gr.isRepo xs, Gr.smallB (Gr.toRepo xs), isL ys, decide (ys.length <= 4294967296), smallS (decL ys)],
     [VT (moveP (Gr.toRepo xs) (decL ys) f n m).1, V.i (moveP (Gr.toRepo xs) (decL ys) f n m).2.1, .c (.sl 1 none false (strs (moveP (Gr.toRepo xs) (decL ys) f n m).2.2.1)), V.i (moveP (Gr.toRepo xs) (decL ys) f n m).2.2.2], [])
 | _, _ => none
end Go.Proofs.YtgaabjmbnomimaaDoor
namespace Go.Proofs.YtgaabjmbnomimaaDoor
open Go Go.Ev
theorem movF_bad {l : List Gr.Cm} {ts : List Nd} : ∀ {L : List Int} {t : Nd} {k : Int}, (movF l ts L t k).2.2.2 = 0 -> (movF l ts L t k).2.2.1 = []
 | [], _, _, _ => rfl
 | x :: L, t, k, h => by
   rw [movF] at h ⊢
   split
   · rename_i hz; rw [if_pos hz] at h; exact movF_bad h
   · rename_i hz; rw [if_neg hz] at h; exact absurd h hz
theorem s110m_ok : CSpecOk E 110 s110m := by
 intro a h cs vals h' he hc
 unfold s110m at he
 split at he <;> simp only [Option.some.injEq, Prod.mk.injEq, reduceCtorEq] at he
 rename_i nl tt xs kn kt ys s us vs k e nl2 t2 xs2 kn2 kt2 ys2 n n1 t1 ks
 obtain ⟨rfl, rfl, rfl⟩ := he
 simp only [allT, Bool.and_true, Bool.and_eq_true, decide_eq_true_eq] at hc
 obtain ⟨a1, a2, a3, a4, a5, a6, a7, a8, a9, a10, a11, rfl, rfl⟩ := hc
 have := eqbLL_eq a5
 subst this
 obtain ⟨l, rfl⟩ := repo_ex a1
 obtain ⟨ts, rfl⟩ := isL_ex a2
 obtain ⟨rs, rfl⟩ := rows_ex a3
 obtain ⟨qs, rfl⟩ := isL_ex a4
 obtain ⟨zs, rfl⟩ := ints_ex a8
 rw [ints_length] at a9
 simp only [Gr.toRepo_repo, decL_enc, toRows_rows, toInts_ints] at *
 exact f110m l ts nl tt kn kt nl2 t2 kn2 kt2 ys2 n n1 t1 zs (.node s rs qs) (wd_of a7) a6 a9 (fun t ht => by have := List.all_eq_true.1 a10 t ht; simpa using this) a11
theorem ints3 (n m k : Int) : toInts [[C.int IntKind.i64 n], [C.int IntKind.i64 m], [C.int IntKind.i64 k]] = [n, m, k] := rfl
theorem may_in3 {l : List Gr.Cm} {ts : List Nd} {f n m : Int} (h : mayW l ts [f, n, m] = 0) : Wd l ts /\ (1 <= f /\ f <= l.length) /\ (1 <= n /\ n <= l.length) /\ (1 <= m /\ m <= l.length) := by
 unfold mayW at h
 by_cases hw : worldOk l ts = true
 · rw [if_pos hw] at h
   by_cases hn : [f, n, m].any (Gr.noNum l.length) = true
   · rw [if_pos hn] at h; omega
   · rw [Bool.not_eq_true] at hn
     simp only [List.any_cons, List.any_nil, Bool.or_false, Bool.or_eq_false_iff, Gr.noNum, decide_eq_false_iff_not] at hn
     exact ⟨wd_of hw, ⟨by omega, by omega⟩, ⟨by omega, by omega⟩, ⟨by omega, by omega⟩⟩
 · rw [if_neg hw] at h; omega
theorem f20 (l : List Gr.Cm) (ks : List Nd) (f n m : Int) (nl : OBo) (tt : Bool) (kn : OBo) (kt : Bool) (hs : Gr.smallB l = true) (hk : ks.length <= 4294967296) (hz : smallS ks = true) :
   call E 20 [.agg [.c (.sl 2 nl tt (Gr.repo l)), .c (.sl 3 kn kt (encL ks))], V.i f, V.i n, V.i m] [] = some ([VT (moveP l ks f n m).1, V.i (moveP l ks f n m).2.1, .c (.sl 1 none false (strs (moveP l ks f n m).2.2.1)), V.i (moveP l ks f n m).2.2.2], []) := by
 refine call_of (E := E) (sh := sh) (ct := ctOf [(53, s53), (56, s56), (110, s110m)]) (na := 4) (m := 0) (ctOf_cons s53_ok (ctOf_cons s56_ok (ctOf_cons s110m_ok ctOf_nil))) rfl rfl rfl rfl rfl rfl ?_
 show p20.fd (p20.ft [.agg [.c (.sl 2 nl tt (Gr.repo l)), .c (.sl 3 kn kt (encL ks))], V.i f, V.i n, V.i m] []) = some (.out _ _)
 rw [t20]
 have hr := reachL_len l f
 unfold moveP
 by_cases h0 : mayW l ks [f, n, m] = 0
 case neg =>
   simp only [encL_length, isL_enc, decL_enc, fd_br, fd_chk', fd_leaf, decide_true, decide_eq_true_eq, if_true, bne_iff_ne, ne_eq, ints_length, isInts_ints, Gr.isRepo_repo, Gr.toRepo_repo, hs, hk, ints3]
   rw [if_pos h0, if_neg h0]; rfl
 obtain ⟨w, ⟨f1, f2⟩, ⟨n1, n2⟩, ⟨m1, m2⟩⟩ := may_in3 h0
 have hlen := w.len
 have hl5 := Gr.right_len w.right
 obtain ⟨q1, q2⟩ := treeN_at (ts := ks) m1 (by omega)
 have c1 : c20_1 (encL ks) m = ks[(m - 1).toNat].enc := by unfold c20_1; rw [wrap_p m m1 (by omega), Int.toNat_natCast, encL_getD q1]
 have c2 : c20_2 (Gr.repo l) (encL ks) f n m = movF l ks (rngP l f n) (treeN ks m) 0 := by
   unfold c20_2 rngP
   rw [c1, q2]
   simp only [nd_lab, nd_rows, nd_kids, decL_enc, toRows_rows, toInts_ints, Gr.toRepo_repo, toInts_ints, Nd.eta]
 have hzm : (entL ks[(m - 1).toNat].kids).length <= 100000 := by
   have := List.all_eq_true.1 hz _ (List.getElem_mem q1)
   simpa [szT] using this
 have hee : eqbLL (Gr.repo l) (Gr.repo l) = true := eqbLL_refl _
 simp only [c1, c2, nd_ok, nd_rows, nd_kids, encL_length, isL_enc, decL_enc, fd_br, fd_chk', fd_leaf, decide_true, if_true, Int.toNat_natCast, Int.natCast_nonneg, bne_iff_ne, ne_eq, isRows_rows, ints_length, isInts_ints, Gr.isRepo_repo, Gr.toRepo_repo, hs, hk, ints3, wrap_p m m1 (by omega), q1, hee, w.is, hz, hzm, show (Gr.reachL l f).length <= 4294967296 by omega]
 rw [if_neg (by simpa using h0), if_pos h0]
 have hb := movF_bad (l := l) (ts := ks) (L := rngP l f n) (t := treeN ks m) (k := 0)
 generalize movF l ks (rngP l f n) (treeN ks m) 0 = r at *
 by_cases he : r.2.2.2 = 0
 · rw [decide_eq_true he, hb he]; rfl
 · rw [decide_eq_false he]; rfl
theorem s20_ok : CSpecOk E 20 s20 := by
 intro a h cs vals h' he hc
 unfold s20 at he
 split at he <;> simp only [Option.some.injEq, Prod.mk.injEq, reduceCtorEq] at he
 rename_i nl tt xs kn kt ys f n m
 obtain ⟨rfl, rfl, rfl⟩ := he
 simp only [allT, Bool.and_true, Bool.and_eq_true, decide_eq_true_eq] at hc
 obtain ⟨h1, h2, h3, h4, h5⟩ := hc
 obtain ⟨l, rfl⟩ := repo_ex h1
 obtain ⟨ks, rfl⟩ := isL_ex h3
 rw [encL_length] at h4
 rw [Gr.toRepo_repo] at h2
 rw [decL_enc] at h5
 rw [decL_enc, Gr.toRepo_repo]
 exact f20 l ks f n m nl tt kn kt h2 h4 h5
end Go.Proofs.YtgaabjmbnomimaaDoor
namespace Go.Proofs.YtgaabjmbnomimaaDoor
open Go Go.Ev
theorem f13_in (dd : Nat) (hd : CSpecOk E 48 (s48 dd)) (l : List Gr.Cm) (hl : l.length <= 30) (ys : LLC) (nl : OBo) (tt : Bool) (kn : OBo) (kt : Bool) (m : Int) : (p13 dd).fd (Tr.ls 1 (s13_1 nl tt (Gr.repo l) kn kt ys m 0)) = some (.out [V.b ((l.all fun c => decide (c.1.length <= 5)) && decide (0 < m))] []) := by
 have hct : (ctOf [(48, s48 dd)]).ok E := ctOf_cons hd ctOf_nil
 refine fd_post (p := p13 dd) hct (by kernel_rfl) rfl (list_post (p := p13 dd) hct (b := b13_1) l.length (fun k (_ : Unit) => s13_1 nl tt (Gr.repo l) kn kt ys m k) (fun k _ => ((l.drop k).all fun c => decide (c.1.length <= 5)) = (l.all fun c => decide (c.1.length <= 5))) _ ?_ ?_ 0 (Nat.zero_le _) () rfl)
 · rintro k _ hk hi
   rw [List.drop_eq_getElem_cons hk, List.all_cons] at hi
   rw [t13_1]
   simp only [ld_br, ld_chk', ld_leaf, decide_true, decide_eq_true_eq, if_true, Int.toNat_natCast, Int.natCast_nonneg, Int.ofNat_lt, ne_eq, ints_length, hk, Gr.repo_length, Gr.repo_getD hk, Gr.ec_ok, Gr.ec_par, wrap_succ (show k < 9223372036854775807 by omega)]
   by_cases c : (5 : Int) < l[k].1.length
   · have : ¬ l[k].1.length <= 5 := by omega
     simp only [this, decide_false, Bool.false_and] at hi
     exact .inr ⟨x13_1x0 nl tt (Gr.repo l) kn kt ys, by simp, by rw [k13_1x0, fd_leaf, <- hi, Bool.false_and], by rw [if_pos c]⟩
   · have : l[k].1.length <= 5 := by omega
     simp only [this, decide_true, Bool.true_and] at hi
     exact .inl ⟨(), hi, by rw [if_neg c]⟩
 · rintro _ hi
   rw [List.drop_length, List.all_nil] at hi
   rw [t13_1]
   exact ⟨x13_1x1 nl tt (Gr.repo l) kn kt ys m l.length, by simp, by rw [k13_1x1, fd_leaf, <- hi, Bool.true_and], by simp only [ld_br, ld_chk', ld_leaf, decide_true, decide_eq_true_eq, if_true, Int.toNat_natCast, Int.natCast_nonneg, if_false, Gr.repo_length, Int.lt_irrefl]⟩
theorem f13 (l : List Gr.Cm) (ks : List Nd) (nl : OBo) (tt : Bool) (kn : OBo) (kt : Bool) (hL : lensL ks = true) : call E 13 [.agg [.c (.sl 2 nl tt (Gr.repo l)), .c (.sl 3 kn kt (encL ks))]] [] = some ([V.b (smallW l ks)], []) := by
 have hs := s48_ok (depL ks + 1)
 have hct : (ctOf [(48, s48 (depL ks + 1))]).ok E := ctOf_cons hs ctOf_nil
 refine call_of (E := E) (sh := sh) (ct := ctOf [(48, s48 (depL ks + 1))]) (na := 1) (m := 0) hct rfl rfl rfl rfl rfl rfl ?_
 show (p13 (depL ks + 1)).fd ((p13 (depL ks + 1)).ft _ _) = _
 rw [t13]
 simp only [fd_br, fd_leaf, Gr.repo_length, encL_length, decide_eq_true_eq]
 unfold smallW
 by_cases c1 : (30 : Int) < l.length
 · have : ¬ l.length <= 30 := by omega
   rw [if_pos c1]; simp [this]
 rw [if_neg c1]
 by_cases c2 : (30 : Int) < ks.length
 · have : ¬ ks.length <= 30 := by omega
   rw [if_pos c2]; simp [this]
 rw [if_neg c2]
 have d1 : l.length <= 30 := by omega
 have d2 : ks.length <= 30 := by omega
 simp only [d1, d2, decide_true, Bool.true_and]
 refine fd_post hct (by kernel_rfl) rfl (list_post (p := p13 (depL ks + 1)) hct (b := b13_0) ks.length (fun k (m : Int) => s13_0 nl tt (Gr.repo l) kn kt (encL ks) m k) (fun k m => leftL (ks.drop k) m 60 = leftL ks 600 60 /\ 0 <= m /\ m <= 600) _ ?_ ?_ 0 (Nat.zero_le _) 600 ⟨rfl, by omega, by omega⟩)
 · rintro k m hk ⟨hi, h1, h2⟩
   rw [List.drop_eq_getElem_cons hk, leftL_cons] at hi
   have hkid : depL ks[k].kids < depL ks + 1 := by have := depL_kid (List.getElem_mem hk); omega
   have hlt := lensL_mem hL (List.getElem_mem hk)
   have hle := leftT_le ks[k] m 60 h1
   rw [t13_0]
   simp only [nd_ok, nd_lab, nd_rows, nd_kids, encL_length, isL_enc, decL_enc, ld_br, ld_chk', ld_leaf, decide_true, decide_eq_true_eq, if_true, Int.toNat_natCast, Int.natCast_nonneg, Int.ofNat_lt, ne_eq, isRows_rows, toRows_rows, hk, encL_getD hk, nd_node, hkid, hlt, h1, show m <= 1000 by omega, wrap_succ (show k < 9223372036854775807 by omega)]
   by_cases c : 0 < m
   · rw [if_pos c] at hi
     exact .inl ⟨leftT ks[k] m 60, ⟨hi, hle.1, by omega⟩, by rw [if_pos c]⟩
   · rw [if_neg c] at hi
     exact .inr ⟨x13_0x0 nl tt (Gr.repo l) kn kt (encL ks) m k, by simp, by rw [k13_0x0, f13_in _ hs l d1, hi], by rw [if_neg c]⟩
 · rintro m ⟨hi, h1, h2⟩
   rw [List.drop_length, leftL] at hi
   rw [t13_0]
   exact ⟨x13_0x0 nl tt (Gr.repo l) kn kt (encL ks) m ks.length, by simp, by rw [k13_0x0, f13_in _ hs l d1, hi], by simp only [encL_length, ld_br, ld_chk', ld_leaf, decide_true, decide_eq_true_eq, if_true, Int.toNat_natCast, Int.natCast_nonneg, if_false, Int.lt_irrefl]⟩
theorem s13_ok : CSpecOk E 13 s13 := by
 intro a h cs vals h' he hc
 unfold s13 at he
 split at he <;> simp only [Option.some.injEq, Prod.mk.injEq, reduceCtorEq] at he
 rename_i nl tt xs kn kt ys
 obtain ⟨rfl, rfl, rfl⟩ := he
 simp only [allT, Bool.and_true, Bool.and_eq_true] at hc
 obtain ⟨h1, h2, h3⟩ := hc
 obtain ⟨l, rfl⟩ := repo_ex h1
 obtain ⟨ks, rfl⟩ := isL_ex h2
 rw [decL_enc] at h3
 rw [decL_enc, Gr.toRepo_repo]
 exact f13 l ks nl tt kn kt h3
theorem s15_ok : CSpecOk E 15 s15 := by
 intro a h cs vals h' he hc
 unfold s15 at he
 split at he <;> simp only [Option.some.injEq, Prod.mk.injEq, reduceCtorEq] at he
 obtain ⟨rfl, rfl, rfl⟩ := he
 exact f15
theorem any2 {l : List Gr.Cm} {n m : Int} (n1 : 1 <= n) (n2 : n <= l.length) (m1 : 1 <= m) (m2 : m <= l.length) : [n, m].any (Gr.noNum l.length) = false := by
 simp only [List.any_cons, List.any_nil, Bool.or_false, Bool.or_eq_false_iff, Gr.noNum, decide_eq_false_iff_not]
 exact ⟨⟨by omega, by omega⟩, ⟨by omega, by omega⟩⟩
theorem may0 {l : List Gr.Cm} {ts : List Nd} (h : worldOk l ts = true) {n m : Int} (n1 : 1 <= n) (n2 : n <= l.length) (m1 : 1 <= m) (m2 : m <= l.length) : mayW l ts [n, m] = 0 := by
 rw [mayW, if_pos h, any2 n1 n2 m1 m2]; rfl
end Go.Proofs.YtgaabjmbnomimaaDoor
namespace Go.Proofs.YtgaabjmbnomimaaDoor
open Go Go.Ev
-- cse
set_option maxHeartbeats 4000000
noncomputable abbrev p5w : Par := par E sh (ctOf [(13, s13), (14, s14), (15, s15), (17, s17n), (19, s19), (20, s20), (21, Gr.s21)]) 5 3 0
abbrev s5w_0 (xs : LLC) (ys : LLC) (f : Int) (n : Int) (nl7 : OBo) (t7 : Bool) (xs7 : LLC) (i9 : Int) (nlh0 : OBo) (th0 : Bool) (nlh0_1 : OBo) (th0_1 : Bool) : Fr × Hp := ([(1, V.c (C.int IntKind.i64 f)), (2, V.c (C.int IntKind.i64 n)), (3, V.ptr 0 0 0 0), (7, V.c (C.sl 1 nl7 t7 xs7)), (9, V.c (C.int IntKind.i64 i9))], [O.box [V.c (C.sl 2 nlh0 th0 xs), V.c (C.sl 3 nlh0_1 th0_1 ys)]])
noncomputable abbrev b5w_0 : Code := loopAt (codeOf E (5)) 0
abbrev x5w_0x0 (xs : LLC) (ys : LLC) (nlh0 : OBo) (th0 : Bool) (nlh0_1 : OBo) (th0_1 : Bool) : Ex × Fr × Hp := (Ex.ret, [(6, V.c (C.bool false))], [O.box [V.c (C.sl 2 nlh0 th0 xs), V.c (C.sl 3 nlh0_1 th0_1 ys)]])
abbrev x5w_0x1 (xs : LLC) (ys : LLC) (f : Int) (n : Int) (nl7 : OBo) (t7 : Bool) (xs7 : LLC) (i9 : Int) (nlh0 : OBo) (th0 : Bool) (nlh0_1 : OBo) (th0_1 : Bool) : Ex × Fr × Hp := (Ex.exit 0, [(1, V.c (C.int IntKind.i64 f)), (2, V.c (C.int IntKind.i64 n)), (3, V.ptr 0 0 0 0), (7, V.c (C.sl 1 nl7 t7 xs7)), (9, V.c (C.int IntKind.i64 i9)), (55, V.c (C.bool false))], [O.box [V.c (C.sl 2 nlh0 th0 xs), V.c (C.sl 3 nlh0_1 th0_1 ys)]])
abbrev c5w_0_1 (xs : LLC) (xs7 : LLC) (i9 : Int) := (xs.getD (IntKind.i64.wrap (((xs7.getD i9.toNat []).headD C.pnil).i - 1)).toNat [])
abbrev c5w_0_2 (xs : LLC) (xs7 : LLC) (i9 : Int) := (shOk [Sk.int IntKind.i64] (((c5w_0_1 xs xs7 i9).headD C.pnil).xs.getD (Int.toNat 0) []))
theorem t5w_0 (xs : LLC) (ys : LLC) (f : Int) (n : Int) (nl7 : OBo) (t7 : Bool) (xs7 : LLC) (i9 : Int) (nlh0 : OBo) (th0 : Bool) (nlh0_1 : OBo) (th0_1 : Bool) : p5w.lts b5w_0 (s5w_0 xs ys f n nl7 t7 xs7 i9 nlh0 th0 nlh0_1 th0_1) = (Tr.br (decide (i9 < (↑xs7.length : Int))) (Tr.chk (decide (0 <= i9)) (Tr.chk true (Tr.chk (decide (i9.toNat < xs7.length)) (Tr.chk (shOk [Sk.int IntKind.i64] (xs7.getD i9.toNat [])) (Tr.br (decide (((xs7.getD i9.toNat []).headD C.pnil).i < 1)) (Tr.leaf (R.x (x5w_0x0 xs ys nlh0 th0 nlh0_1 th0_1))) (Tr.chk (decide (0 <= i9)) (Tr.chk true (Tr.chk (decide (i9.toNat < xs7.length)) (Tr.chk (shOk [Sk.int IntKind.i64] (xs7.getD i9.toNat [])) (Tr.br (decide ((↑xs.length : Int) < ((xs7.getD i9.toNat []).headD C.pnil).i)) (Tr.leaf (R.x (x5w_0x0 xs ys nlh0 th0 nlh0_1 th0_1))) (Tr.chk (decide (0 <= i9)) (Tr.chk true (Tr.chk (decide (i9.toNat < xs7.length)) (Tr.chk (shOk [Sk.int IntKind.i64] (xs7.getD i9.toNat [])) (Tr.chk (Gr.isRepo xs) (Tr.chk (Gr.smallB (Gr.toRepo xs)) (Tr.br (Gr.beforeG (Gr.toRepo xs) ((xs7.getD i9.toNat []).headD C.pnil).i f) (Tr.leaf (R.x (x5w_0x0 xs ys nlh0 th0 nlh0_1 th0_1))) (Tr.chk (decide (0 <= i9)) (Tr.chk true (Tr.chk (decide (i9.toNat < xs7.length)) (Tr.chk (shOk [Sk.int IntKind.i64] (xs7.getD i9.toNat [])) (Tr.chk (decide (0 <= IntKind.i64.wrap (((xs7.getD i9.toNat []).headD C.pnil).i - 1))) (Tr.chk true (Tr.chk (decide ((IntKind.i64.wrap (((xs7.getD i9.toNat []).headD C.pnil).i - 1)).toNat < xs.length)) (Tr.chk (shOk [Sk.sl 1, Sk.int IntKind.i64] (c5w_0_1 xs xs7 i9)) (Tr.br (decide (0 < i9)) (Tr.br ((↑((c5w_0_1 xs xs7 i9).headD C.pnil).xs.length : Int) == 0) (Tr.leaf (R.x (x5w_0x0 xs ys nlh0 th0 nlh0_1 th0_1))) (Tr.chk true (Tr.chk true (Tr.chk (decide (Int.toNat 0 < ((c5w_0_1 xs xs7 i9).headD C.pnil).xs.length)) (Tr.chk (c5w_0_2 xs xs7 i9) (Tr.chk (decide (0 <= IntKind.i64.wrap (i9 - 1))) (Tr.chk true (Tr.chk (decide ((IntKind.i64.wrap (i9 - 1)).toNat < xs7.length)) (Tr.chk (shOk [Sk.int IntKind.i64] (xs7.getD (IntKind.i64.wrap (i9 - 1)).toNat [])) (Tr.br (((((c5w_0_1 xs xs7 i9).headD C.pnil).xs.getD (Int.toNat 0) []).headD C.pnil).i != ((xs7.getD (IntKind.i64.wrap (i9 - 1)).toNat []).headD C.pnil).i) (Tr.leaf (R.x (x5w_0x0 xs ys nlh0 th0 nlh0_1 th0_1))) (Tr.br (i9 == 0) (Tr.br (decide (0 < (↑((c5w_0_1 xs xs7 i9).headD C.pnil).xs.length : Int))) (Tr.chk true (Tr.chk true (Tr.chk (decide (Int.toNat 0 < ((c5w_0_1 xs xs7 i9).headD C.pnil).xs.length)) (Tr.chk (c5w_0_2 xs xs7 i9) (Tr.chk (Gr.isRepo xs) (Tr.chk (Gr.smallB (Gr.toRepo xs)) (Tr.br (!Gr.beforeG (Gr.toRepo xs) ((((c5w_0_1 xs xs7 i9).headD C.pnil).xs.getD (Int.toNat 0) []).headD C.pnil).i f) (Tr.leaf (R.x (x5w_0x0 xs ys nlh0 th0 nlh0_1 th0_1))) (Tr.leaf (R.s (s5w_0 xs ys f n nl7 t7 xs7 (IntKind.i64.wrap (i9 + 1)) nlh0 th0 nlh0_1 th0_1)))))))))) (Tr.leaf (R.s (s5w_0 xs ys f n nl7 t7 xs7 (IntKind.i64.wrap (i9 + 1)) nlh0 th0 nlh0_1 th0_1)))) (Tr.leaf (R.s (s5w_0 xs ys f n nl7 t7 xs7 (IntKind.i64.wrap (i9 + 1)) nlh0 th0 nlh0_1 th0_1)))))))))))))) (Tr.br (i9 == 0) (Tr.br (decide (0 < (↑((c5w_0_1 xs xs7 i9).headD C.pnil).xs.length : Int))) (Tr.chk true (Tr.chk true (Tr.chk (decide (Int.toNat 0 < ((c5w_0_1 xs xs7 i9).headD C.pnil).xs.length)) (Tr.chk (c5w_0_2 xs xs7 i9) (Tr.chk (Gr.isRepo xs) (Tr.chk (Gr.smallB (Gr.toRepo xs)) (Tr.br (!Gr.beforeG (Gr.toRepo xs) ((((c5w_0_1 xs xs7 i9).headD C.pnil).xs.getD (Int.toNat 0) []).headD C.pnil).i f) (Tr.leaf (R.x (x5w_0x0 xs ys nlh0 th0 nlh0_1 th0_1))) (Tr.leaf (R.s (s5w_0 xs ys f n nl7 t7 xs7 (IntKind.i64.wrap (i9 + 1)) nlh0 th0 nlh0_1 th0_1)))))))))) (Tr.leaf (R.s (s5w_0 xs ys f n nl7 t7 xs7 (IntKind.i64.wrap (i9 + 1)) nlh0 th0 nlh0_1 th0_1)))) (Tr.leaf (R.s (s5w_0 xs ys f n nl7 t7 xs7 (IntKind.i64.wrap (i9 + 1)) nlh0 th0 nlh0_1 th0_1)))))))))))))))))))))))))))))) (Tr.leaf (R.x (x5w_0x1 xs ys f n nl7 t7 xs7 i9 nlh0 th0 nlh0_1 th0_1)))) := by kernel_rfl
abbrev ck5w_0x1_1 (xs7 : LLC) := (IntKind.i64.wrap (((xs7.getD (Int.toNat 0) []).headD C.pnil).i - 1))
abbrev ck5w_0x1_2 (xs : LLC) (ys : LLC) (f : Int) (n : Int) (xs7 : LLC) := (moveP (Gr.toRepo xs) (decL ys) f n ((((xs.getD (ck5w_0x1_1 xs7).toNat []).headD C.pnil).xs.getD (Int.toNat 0) []).headD C.pnil).i)
abbrev ck5w_0x1_3 (xs7 : LLC) := (xs7.getD (IntKind.i64.wrap ((↑xs7.length : Int) - 1)).toNat [])
abbrev ck5w_0x1_4 (ys : LLC) (n : Int) := (ys.getD (IntKind.i64.wrap (n - 1)).toNat [])
theorem k5w_0x1 (xs : LLC) (ys : LLC) (f : Int) (n : Int) (nl7 : OBo) (t7 : Bool) (xs7 : LLC) (i9 : Int) (nlh0 : OBo) (th0 : Bool) (nlh0_1 : OBo) (th0_1 : Bool) : p5w.fkx 0 (x5w_0x1 xs ys f n nl7 t7 xs7 i9 nlh0 th0 nlh0_1 th0_1) = (Tr.br ((↑xs7.length : Int) == 0) (Tr.leaf (R.out [V.c (C.bool true)] [])) (Tr.chk true (Tr.chk true (Tr.chk (decide (Int.toNat 0 < xs7.length)) (Tr.chk (shOk [Sk.int IntKind.i64] (xs7.getD (Int.toNat 0) [])) (Tr.chk (decide (0 <= IntKind.i64.wrap (((xs7.getD (Int.toNat 0) []).headD C.pnil).i - 1))) (Tr.chk true (Tr.chk (decide ((ck5w_0x1_1 xs7).toNat < xs.length)) (Tr.chk (shOk [Sk.sl 1, Sk.int IntKind.i64] (xs.getD (ck5w_0x1_1 xs7).toNat [])) (Tr.br ((↑((xs.getD (ck5w_0x1_1 xs7).toNat []).headD C.pnil).xs.length : Int) == 0) (Tr.chk (decide (0 <= IntKind.i64.wrap ((↑xs7.length : Int) - 1))) (Tr.chk true (Tr.chk (decide ((IntKind.i64.wrap ((↑xs7.length : Int) - 1)).toNat < xs7.length)) (Tr.chk (shOk [Sk.int IntKind.i64] (ck5w_0x1_3 xs7)) (Tr.br (((ck5w_0x1_3 xs7).headD C.pnil).i == n) (Tr.leaf (R.out [V.c (C.bool true)] [])) (Tr.leaf (R.out [V.c (C.bool false)] []))))))) (Tr.chk true (Tr.chk true (Tr.chk (decide (Int.toNat 0 < ((xs.getD (ck5w_0x1_1 xs7).toNat []).headD C.pnil).xs.length)) (Tr.chk (shOk [Sk.int IntKind.i64] (((xs.getD (ck5w_0x1_1 xs7).toNat []).headD C.pnil).xs.getD (Int.toNat 0) [])) (Tr.chk (Gr.isRepo xs) (Tr.chk (Gr.smallB (Gr.toRepo xs)) (Tr.chk (isL ys) (Tr.chk (decide (ys.length <= 4294967296)) (Tr.chk (smallS (decL ys)) (Tr.chk (decide (0 <= IntKind.i64.wrap ((↑xs7.length : Int) - 1))) (Tr.chk true (Tr.chk (decide ((IntKind.i64.wrap ((↑xs7.length : Int) - 1)).toNat < xs7.length)) (Tr.chk (shOk [Sk.int IntKind.i64] (ck5w_0x1_3 xs7)) (Tr.br (((ck5w_0x1_3 xs7).headD C.pnil).i == n) (Tr.chk (decide (0 <= IntKind.i64.wrap (n - 1))) (Tr.chk true (Tr.chk (decide ((IntKind.i64.wrap (n - 1)).toNat < ys.length)) (Tr.chk (shOk [Sk.str, Sk.sl 5, Sk.sl 3] (ck5w_0x1_4 ys n)) (Tr.chk (isRows (rows (ck5w_0x1_2 xs ys f n xs7).fst.rows)) (Tr.chk (isL (encL (ck5w_0x1_2 xs ys f n xs7).fst.kids)) (Tr.chk (isRows ((ck5w_0x1_4 ys n).tail.headD C.pnil).xs) (Tr.chk (isL ((ck5w_0x1_4 ys n).tail.tail.headD C.pnil).xs) (Tr.chk (lensT (Nd.node (ck5w_0x1_2 xs ys f n xs7).fst.lab (toRows (rows (ck5w_0x1_2 xs ys f n xs7).fst.rows)) (decL (encL (ck5w_0x1_2 xs ys f n xs7).fst.kids)))) (Tr.br (sameT (Nd.node (ck5w_0x1_2 xs ys f n xs7).fst.lab (toRows (rows (ck5w_0x1_2 xs ys f n xs7).fst.rows)) (decL (encL (ck5w_0x1_2 xs ys f n xs7).fst.kids))) (Nd.node ((ck5w_0x1_4 ys n).headD C.pnil).st (toRows ((ck5w_0x1_4 ys n).tail.headD C.pnil).xs) (decL ((ck5w_0x1_4 ys n).tail.tail.headD C.pnil).xs))) (Tr.br ((ck5w_0x1_2 xs ys f n xs7).snd.fst == (↑xs7.length : Int)) (Tr.br ((↑(strs (ck5w_0x1_2 xs ys f n xs7).snd.snd.fst).length : Int) == 0) (Tr.br ((ck5w_0x1_2 xs ys f n xs7).snd.snd.snd == 0) (Tr.leaf (R.out [V.c (C.bool true)] [])) (Tr.leaf (R.out [V.c (C.bool false)] []))) (Tr.leaf (R.out [V.c (C.bool false)] []))) (Tr.leaf (R.out [V.c (C.bool false)] []))) (Tr.leaf (R.out [V.c (C.bool false)] [])))))))))))) (Tr.leaf (R.out [V.c (C.bool false)] [])))))))))))))))))))))))))) := by kernel_rfl
theorem t5w (xs : LLC) (ys : LLC) (f : Int) (n : Int) : p5w.ft ([V.agg [V.c (C.sl 2 none false xs), V.c (C.sl 3 none false ys)], V.i f, V.i n]) ([]) = (Tr.chk (Gr.isRepo xs) (Tr.chk (isL ys) (Tr.chk (lensL (decL ys)) (Tr.br (!smallW (Gr.toRepo xs) (decL ys)) (Tr.leaf (R.out [V.c (C.bool true)] [])) (Tr.chk (Gr.isRepo xs) (Tr.chk (Gr.smallB (Gr.toRepo xs)) (Tr.chk (isL ys) (Tr.chk (decide (ys.length <= 4294967296)) (Tr.br (!isW (Gr.toRepo xs) (decL ys) f) (Tr.leaf (R.out [V.c (C.bool true)] [])) (Tr.chk (Gr.isRepo xs) (Tr.chk (Gr.smallB (Gr.toRepo xs)) (Tr.chk (isL ys) (Tr.chk (decide (ys.length <= 4294967296)) (Tr.br (!isW (Gr.toRepo xs) (decL ys) n) (Tr.leaf (R.out [V.c (C.bool true)] [])) (Tr.chk (Gr.isRepo xs) (Tr.chk (Gr.smallB (Gr.toRepo xs)) (Tr.chk (isL ys) (Tr.chk (decide (ys.length <= 4294967296)) (Tr.br ((rangeP (Gr.toRepo xs) (decL ys) f n).snd != 0) (Tr.leaf (R.out [V.c (C.bool false)] [])) (Tr.chk (Gr.isRepo xs) (Tr.chk (Gr.smallB (Gr.toRepo xs)) (Tr.br (!((↑(ints (rangeP (Gr.toRepo xs) (decL ys) f n).fst).length : Int) == 0) == Gr.beforeG (Gr.toRepo xs) n f) (Tr.leaf (R.out [V.c (C.bool false)] [])) (Tr.ls 0 (s5w_0 xs ys f n (none) false (ints (rangeP (Gr.toRepo xs) (decL ys) f n).fst) (0) (none) false (none) false)))))))))))))))))))))))) := by kernel_rfl
end Go.Proofs.YtgaabjmbnomimaaDoor
namespace Go.Proofs.YtgaabjmbnomimaaDoor
open Go Go.Ev
theorem any3 {l : List Gr.Cm} {f n m : Int} (f1 : 1 <= f) (f2 : f <= l.length) (n1 : 1 <= n) (n2 : n <= l.length) (m1 : 1 <= m) (m2 : m <= l.length) : [f, n, m].any (Gr.noNum l.length) = false := by
 simp only [List.any_cons, List.any_nil, Bool.or_false, Bool.or_eq_false_iff, Gr.noNum, decide_eq_false_iff_not]
 exact ⟨⟨by omega, by omega⟩, ⟨by omega, by omega⟩, ⟨by omega, by omega⟩⟩
theorem may03 {l : List Gr.Cm} {ts : List Nd} (h : worldOk l ts = true) {f n m : Int} (f1 : 1 <= f) (f2 : f <= l.length) (n1 : 1 <= n) (n2 : n <= l.length) (m1 : 1 <= m) (m2 : m <= l.length) : mayW l ts [f, n, m] = 0 := by
 rw [mayW, if_pos h, any3 f1 f2 n1 n2 m1 m2]; rfl
theorem rngP_len (l : List Gr.Cm) (b n : Int) : (rngP l b n).length <= 501 := by
 unfold rngP commitsP
 refine Nat.le_trans (List.length_filter_le _ _) ?_
 rw [List.length_reverse]; exact firstG_len l n
theorem par_v {l : List Gr.Cm} {x : Int} (h1 : 1 <= x) (h2 : x <= l.length) (h3 : x <= 4294967296) : ∃ h : (x - 1).toNat < l.length, IntKind.wrap .i64 (x - 1) = (((x - 1).toNat : Nat) : Int) /\ (Gr.repo l).getD (x - 1).toNat [] = Gr.ec l[(x - 1).toNat] /\ (l[(x - 1).toNat]).1 = parsN l x := by
 obtain ⟨q1, q2⟩ := pars_at h1 h2
 exact ⟨q1, wrap_p x h1 h3, Gr.repo_getD q1, q2.symm⟩
theorem f5w (l : List Gr.Cm) (ks : List Nd) (f n : Int) (hL : lensL ks = true) : call E 5 [.agg [.c (.sl 2 none false (Gr.repo l)), .c (.sl 3 none false (encL ks))], V.i f, V.i n] [] = some ([V.b true], []) := by
 have hct : (ctOf [(13, s13), (14, s14), (15, s15), (17, s17n), (19, s19), (20, s20), (21, Gr.s21)]).ok E := ctOf_cons s13_ok (ctOf_cons s14_ok (ctOf_cons s15_ok (ctOf_cons s17n_ok (ctOf_cons s19_ok (ctOf_cons s20_ok (ctOf_cons Gr.s21_ok ctOf_nil))))))
 refine call_of (E := E) (sh := sh) (ct := ctOf [(13, s13), (14, s14), (15, s15), (17, s17n), (19, s19), (20, s20), (21, Gr.s21)]) (na := 3) (m := 0) hct rfl rfl rfl rfl rfl rfl ?_
 rw [t5w]
 simp only [fd_br, fd_chk', fd_leaf, if_true, Gr.isRepo_repo, Gr.toRepo_repo, isL_enc, decL_enc, hL, Bool.not_eq_true', encL_length]
 by_cases s1 : smallW l ks = false
 · rw [if_pos s1]
 rw [if_neg s1]
 rw [Bool.not_eq_false] at s1
 have s1' := s1
 simp only [smallW, Bool.and_eq_true, decide_eq_true_eq] at s1'
 obtain ⟨⟨⟨a1, a2⟩, a3⟩, a4⟩ := s1'
 have hs : Gr.smallB l = true := by
   rw [Gr.smallB, List.all_eq_true]
   intro c hc
   have := List.all_eq_true.1 a3 c hc
   simp only [decide_eq_true_eq] at this ⊢; omega
 have hz : smallS ks = true := by
   rw [smallS, List.all_eq_true]
   intro t ht
   have e1 := leftL_ent ks 600 60 (by omega) a4
   have e2 := entT_mem_len ht
   have e3 : (entL t.kids).length <= (entT t).length := by rw [entT_eq]; simp
   exact decide_eq_true (by unfold szT; omega)
 have hk : ks.length <= 4294967296 := by omega
 simp only [hs, hk, decide_true, if_true]
 by_cases s2 : isW l ks f = false
 · rw [if_pos s2]
 rw [if_neg s2]
 by_cases s3 : isW l ks n = false
 · rw [if_pos s3]
 rw [if_neg s3]
 rw [Bool.not_eq_false] at s2 s3
 simp only [isW, Bool.and_eq_true, decide_eq_true_eq] at s2 s3
 obtain ⟨⟨hw, f1⟩, f2⟩ := s2
 obtain ⟨⟨_, n1⟩, n2⟩ := s3
 have w := wd_of hw
 have hl := w.len
 have g := rngP_rg w.right f1 f2 n1 n2
 have hrl := rngP_len l f n
 have hrange : rangeP l ks f n = (rngP l f n, 0) := by rw [rangeP, if_pos (may0 hw f1 f2 n1 n2)]
 have hmove : ∀ m : Int, 1 <= m -> m <= l.length -> moveP l ks f n m = movF l ks (rngP l f n) (treeN ks m) 0 := fun m m1 m2 => by rw [moveP, if_pos (may03 hw f1 f2 n1 n2 m1 m2)]
 rw [hrange]
 generalize rngP l f n = L at *
 have hemp : ((((ints L).length : Int) == 0) == Gr.beforeG l n f) = true := by
   rw [ints_length, beq_iff_eq, Bool.eq_iff_iff, beq_iff_eq, <- g.nil]
   constructor
   · intro h; exact List.length_eq_zero_iff.1 (by omega)
   · intro h; rw [h]; rfl
 simp only [hemp, Bool.false_eq_true, if_false, bne_self_eq_false]
 refine fd_post (p := p5w) hct (by kernel_rfl) rfl (list_post (p := p5w) hct (b := b5w_0) L.length (fun k (_ : Unit) => s5w_0 (Gr.repo l) (encL ks) f n none false (ints L) k none false none false) (fun _ _ => True) _ ?_ ?_ 0 (Nat.zero_le _) () trivial)
 · rintro k _ hk _
   have hx := g.mem L[k] (List.getElem_mem hk)
   obtain ⟨q1, q2, q3, q4⟩ := par_v (l := l) hx.1 hx.2.1 (by omega)
   refine .inl ⟨(), trivial, ?_⟩
   have e1 : (ints L).getD k [] = ei L[k] := ints_getD' hk
   have e2 : ¬ L[k] < 1 := by omega
   have e3 : ¬ ((l.length : Nat) : Int) < L[k] := by omega
   rw [t5w_0]
   match k, hk with
   | 0, hk =>
     simp only [c5w_0_1, c5w_0_2, ld_br, ld_chk', ld_leaf, decide_true, decide_eq_true_eq, if_true, Int.toNat_natCast, Int.natCast_nonneg, Int.ofNat_lt, Bool.false_eq_true, if_false, bne_iff_ne, beq_iff_eq, ne_eq, Bool.not_eq_true', ints_length, ei_i, ei_ok, Nat.zero_add, hk, hx.2.2, e1, e2, e3, q2, q1, q3, Gr.isRepo_repo, Gr.toRepo_repo, Gr.repo_length, hs, Gr.ec_ok, Gr.ec_par, wrap_succ (show 0 < 9223372036854775807 by omega), q4]
     rw [if_neg (show ¬ ((0 : Int) < ((0 : Nat) : Int)) by decide), if_pos (show ((0 : Nat) : Int) = 0 from rfl)]
     rcases g.head L[0] (List.getElem?_eq_getElem hk) with hp | ⟨p, r, hp, hb⟩
     · rw [hp, if_neg (by simp)]
     · rw [hp]
       have e0 : (ints (p :: r)).getD (Int.toNat 0) [] = ei p := rfl
       have e4 : Int.toNat 0 < (p :: r).length := Nat.succ_pos _
       have e5 : (0 : Int) < (((p :: r).length : Nat) : Int) := by rw [List.length_cons]; omega
       simp only [if_true, if_false, reduceCtorEq, ei_i, ei_ok, e0, e4, e5, hb]
   | j + 1, hk =>
     obtain ⟨r, hp⟩ := g.next j L[j] L[j + 1] (List.getElem?_eq_getElem (by omega)) (List.getElem?_eq_getElem hk)
     have e0 : (ints (L[j] :: r)).getD (Int.toNat 0) [] = ei L[j] := rfl
     have e4 : Int.toNat 0 < (L[j] :: r).length := Nat.succ_pos _
     have e5 : ¬ (((L[j] :: r).length : Nat) : Int) = 0 := by rw [List.length_cons]; omega
     have e6 : (0 : Int) < ((j + 1 : Nat) : Int) := by omega
     have e7 : ¬ ((j + 1 : Nat) : Int) = 0 := by omega
     have e8 : IntKind.wrap .i64 (((j + 1 : Nat) : Int) - 1) = (j : Int) := by rw [wrap_same (by omega) (by omega)]; omega
     have e9 : j < L.length := by omega
     simp only [c5w_0_1, c5w_0_2, ld_br, ld_chk', ld_leaf, decide_true, decide_eq_true_eq, if_true, Int.toNat_natCast, Int.natCast_nonneg, Int.ofNat_lt, Bool.false_eq_true, if_false, bne_iff_ne, beq_iff_eq, ne_eq, not_true_eq_false, Bool.not_eq_true', ints_length, ei_i, ei_ok, hk, hx.2.2, e1, e2, e3, q2, q1, q3, Gr.isRepo_repo, Gr.toRepo_repo, Gr.repo_length, hs, Gr.ec_ok, Gr.ec_par, wrap_succ (show j + 1 < 9223372036854775807 by omega), q4, hp, e0, e4, e5, e6, e7, e8, e9, ints_getD' e9]
 · rintro _ _
   rw [t5w_0]
   refine ⟨x5w_0x1 (Gr.repo l) (encL ks) f n none false (ints L) L.length none false none false, by simp, ?_, by simp only [ld_br, ld_chk', ld_leaf, decide_true, decide_eq_true_eq, if_true, Int.toNat_natCast, Int.natCast_nonneg, if_false, bne_iff_ne, beq_iff_eq, ne_eq, Bool.not_eq_true', ints_length, Int.lt_irrefl]⟩
   rw [k5w_0x1]
   by_cases hL0 : L = []
   · subst hL0; rfl
   have hk : 0 < L.length := List.length_pos_iff.2 hL0
   have hx := g.mem L[0] (List.getElem_mem hk)
   obtain ⟨q1, q2, q3, q4⟩ := par_v (l := l) hx.1 hx.2.1 (by omega)
   have hlast := g.last hL0
   rw [List.getLast?_eq_getElem?, List.getElem?_eq_getElem (by omega), Option.some.injEq] at hlast
   have e0 : (ints L).getD (Int.toNat 0) [] = ei L[0] := ints_getD' hk
   have e1 : ¬ ((L.length : Nat) : Int) = 0 := by omega
   have e2 : IntKind.wrap .i64 (((L.length : Nat) : Int) - 1) = ((L.length - 1 : Nat) : Int) := by rw [wrap_same (by omega) (by omega)]; omega
   have e3 : L.length - 1 < L.length := by omega
   have e4 : (ints L).getD (L.length - 1) [] = ei n := by rw [ints_getD' e3, hlast]
   have e5 : Int.toNat 0 < L.length := hk
   rcases g.head L[0] (List.getElem?_eq_getElem hk) with hp | ⟨p, r, hp, hb⟩
   · simp only [ck5w_0x1_1, ck5w_0x1_2, ck5w_0x1_3, ck5w_0x1_4, encL_length, isL_enc, decL_enc, fd_br, fd_chk', fd_leaf, decide_true, decide_eq_true_eq, if_true, Int.toNat_natCast, Int.natCast_nonneg, if_false, beq_iff_eq, isRows_rows, toRows_rows, ints_length, ei_i, ei_ok, e0, e1, e2, e3, e4, e5, q1, q2, q3, q4, hp, Gr.ec_ok, Gr.ec_par, Gr.repo_length]
     rfl
   · have hpp := pars_lt w.right hx.1 hx.2.1 (p := p) (by rw [hp]; simp)
     obtain ⟨k1, k2⟩ := treeN_at (ts := ks) n1 (by omega)
     have hlt : lensT ks[(n - 1).toNat] = true := okR_lens (w.ok _ (List.getElem_mem k1))
     have hmv := hmove p hpp.1 (by omega)
     rw [movF_along w (b := f) (n := n) L (treeN ks p) 0 (fun x hx => ⟨(g.mem x hx).1, (g.mem x hx).2.1⟩) g.next (fun x hx => by
       rw [List.getElem?_eq_getElem hk, Option.some.injEq] at hx
       subst hx; unfold baseN; rw [hp]) g.last hL0, k2] at hmv
     have d0 : (ints (p :: r)).getD (Int.toNat 0) [] = ei p := rfl
     have d4 : Int.toNat 0 < (p :: r).length := Nat.succ_pos _
     have d5 : ¬ (((p :: r).length : Nat) : Int) = 0 := by rw [List.length_cons]; omega
     simp only [ck5w_0x1_1, ck5w_0x1_2, ck5w_0x1_3, ck5w_0x1_4, nd_ok, nd_lab, nd_rows, nd_kids, encL_length, isL_enc, decL_enc, fd_br, fd_chk', fd_leaf, decide_true, decide_eq_true_eq, if_true, Int.toNat_natCast, Int.natCast_nonneg, if_false, beq_iff_eq, isRows_rows, toRows_rows, ints_length, ei_i, ei_ok, e0, e1, e2, e3, e4, e5, q1, q2, q3, q4, hp, Gr.ec_ok, Gr.ec_par, Gr.repo_length, d0, d4, d5, Gr.isRepo_repo, Gr.toRepo_repo, hs, hz, hmv, wrap_p n n1 (by omega), k1, encL_getD k1, Nd.eta, hlt, sameT_refl, Int.zero_add]
     simp [strs]
     omega
end Go.Proofs.YtgaabjmbnomimaaDoor
namespace Go.Proofs.YtgaabjmbnomimaaDoor
open Go Go.Ev
theorem lawq5 (w : Lw) (f n : Int) : call E 5 [VW w, V.i f, V.i n] [] = some ([V.b true], []) := f5w w.l w.ts f n w.ok
end Go.Proofs.YtgaabjmbnomimaaDoor
