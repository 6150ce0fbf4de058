/-
  Radix trees: putting: copied, shared, split, place over an own row; Radix trees: putting: trees, written by a program: place over an own row, joined, put, Put; Radix trees: putting; Radix trees: trees, written by a program: Put, Nodes, walk; Radix trees: Put, Nodes; Radix trees, plain: entries rise; what paths have behind a put; Plain: what slices.SortFunc makes of entries; DERIVED: THE SHELF's CONTRACTS AT THIS DUMP, IN PLAIN WORDS (tools/lay-plain.mjs out of 'Zshs_.lean', which tools/lay-shelf.mjs wrote): THE SAME DECLARATIONS UNDER THE SAME NAMES: 'import', 'namespace', 'open', 'def', 'theo.
-/
import Derived.Sort.AssemblyPlain
import Derived.Test.YtgaabjmbnomimaaGreatDoorProg
import Derived.Shelf.Unicode.DecodeAny
import Derived.Shelf.Small.Strs
import Derived.Shelf.Small.Wraps
import Derived.Shelf.SlSortCmp.WholeK
import Derived.Tactics
import Derived.Tactics2
import Derived.Defers
import Derived.Recover
import Derived.Laws.Pointers
import Derived.Laws.RangeString
import Derived.WalkKit
import Derived.WalkSmall
import Derived.LoopTactic
import Derived.Lib.OthersKept
import Derived.WalkSpells
import Derived.Deep.LoopGhost
import Derived.BigQuiet
import Derived.Deep.QuietTactic
import Derived.Lib.TrimUEq
import Derived.Lib.ByteType
import Derived.RangeFuncRecord
import Derived.Shelf.SlSortCmp.InsertionK
import Derived.Test.YtgaabjmbnomimaaGreatDoorRows
import Derived.ProofKit
import Derived.OpenShut
import Derived.Below
import Derived.Deep.DeepHandedRow
import Derived.Lib.LaidU8T
import Derived.PinnedBridge
import Derived.Test.YtgaabjmbnomimaaGreatDoorEvT
import Derived.Test.YtgaabjmbnomimaaGreatDoorZaRunD
import Derived.Test.YtgaabjmbnomimaaGreatDoorZbP9
set_option linter.all false
namespace Go.Proofs.YtgaabjmbnomimaaGreatDoor
open Go Go.Ev
theorem s171_ok : CSpecOk E 171 s171 := fun a h cs vals h' he hc => by
 unfold s171 at he
 split at he <;> simp only [Option.some.injEq, Prod.mk.injEq, reduceCtorEq] at he
 rename_i nl tt xs
 obtain ⟨rfl, rfl, rfl⟩ := he
 simp only [allT, Bool.and_true, decide_eq_true_eq] at hc
 exact call_ext (f := x171) rfl (by simp only [x171, if_pos hc])
def s126 : CSpec := fun a h => match a, h with
 | [.agg [.c (.str s), .c (.sl 5 rn rt xs), .c (.sl 3 kn kt ys)]], [] => some ([decide (ys.length < 4294967296)], [.agg [.c (.str s), .c (.sl 5 rn rt xs), .buf 0 0 0 ys.length]], [.mem 3 0 ys])
 | _, _ => none
theorem f126 (s : Bys) (rn : OBo) (rt : Bool) (xs : LLC) (kn : OBo) (kt : Bool) (ys : LLC) (h : ys.length < 4294967296) :
   call E 126 [.agg [.c (.str s), .c (.sl 5 rn rt xs), .c (.sl 3 kn kt ys)]] [] = some ([.agg [.c (.str s), .c (.sl 5 rn rt xs), .buf 0 0 0 ys.length]], [.mem 3 0 ys]) := by
 refine call_of (E := E) (sh := sh) (ct := ctOf [(171, s171)]) (na := 1) (m := 0) (ctOf_cons s171_ok ctOf_nil) rfl rfl rfl rfl rfl rfl ?_
 rw [t126]
 simp only [ld_br, ld_chk', ld_leaf, fd_br, fd_chk', fd_leaf, decide_true, decide_eq_true_eq, if_true, Int.toNat_natCast, Int.natCast_nonneg, Int.ofNat_lt, Int.ofNat_le, Bool.false_eq_true, if_false, bne_iff_ne, beq_iff_eq, ne_eq, not_true_eq_false, not_false_eq_true, Bool.not_eq_true', decide_eq_false_iff_not, reduceCtorEq, rows_length, er_ok, er_ok', dr_er, isRows_rows, toRows_rows, rows_take, rows_drop, rows_append, ints_length, isInts_ints, toInts_ints, ei_i, ei_ok, mk_headD, ints_take, ints_drop, ints_append, ints_snoc, ints_snoc', List.take_length, Nat.zero_add, Nat.le_refl, er_a, er_b, er_k, er_n, er_s, er_v, h]
theorem s126_ok : CSpecOk E 126 s126 := by
 intro a h cs vals h' he hc
 unfold s126 at he
 split at he <;> simp only [Option.some.injEq, Prod.mk.injEq, reduceCtorEq] at he
 rename_i s rn rt xs kn kt ys
 obtain ⟨rfl, rfl, rfl⟩ := he
 simp only [allT, Bool.and_true, Bool.and_eq_true, decide_eq_true_eq] at hc
 skip
 exact f126 s rn rt xs kn kt ys hc
theorem sharedL_drop {a b : List UInt8} {k : Nat} (ha : k < a.length) (hb : k < b.length) : sharedL (a.drop k) (b.drop k) = if a[k] = b[k] then sharedL (a.drop (k + 1)) (b.drop (k + 1)) + 1 else 0 := by
 rw [List.drop_eq_getElem_cons ha, List.drop_eq_getElem_cons hb, sharedL]
theorem sharedL_end {a b : List UInt8} {k : Nat} (h : ¬ (k < a.length /\ k < b.length)) : sharedL (a.drop k) (b.drop k) = 0 := by
 by_cases ha : k < a.length
 · have e : b.drop k = [] := List.drop_eq_nil_of_le (by omega)
   rw [e]
   cases a.drop k <;> rfl
 · have e : a.drop k = [] := List.drop_eq_nil_of_le (by omega)
   rw [e]; rfl
theorem byteEq (a b : UInt8) : ((a.toNat : Int) == (b.toNat : Int)) = decide (a = b) := by
 rw [Bool.eq_iff_iff]
 simp only [beq_iff_eq, decide_eq_true_eq]
 exact ⟨fun h => UInt8.toNat_inj.1 (by omega), fun h => by rw [h]⟩
theorem f128 (a b : Bys) (ha : a.length < 9223372036854775807) : call E 128 [.c (.str a), .c (.str b)] [] = some ([V.i (sharedL a b)], []) := by
 have hct : (ctOf []).ok E := ctOf_nil
 refine call_of (E := E) (sh := sh) (ct := ctOf []) (na := 2) (m := 0) hct rfl rfl rfl rfl rfl rfl ?_
 rw [t128]
 refine fd_post hct (by kernel_rfl) rfl (loops_post hct (b := b128_0) (ι := Nat) (fun k => s128_0 a b k) (fun k => sharedL (a.drop k) (b.drop k) + k = sharedL a b /\ k <= a.length) (fun k => a.length - k) _ ?_ 0 ⟨rfl, Nat.zero_le _⟩)
 rintro k ⟨hi, hk⟩
 rw [t128_0]
 have stop : sharedL (a.drop k) (b.drop k) = 0 -> ∃ x : Ex × Fr × Hp, x = x128_0x0 a b (k : Int) /\ p128.fd (p128.fkx 0 x) = some (R.out [V.i (sharedL a b)] []) := fun h => by
   refine ⟨_, rfl, ?_⟩
   rw [k128_0x0, fd_leaf, <- hi, h, Nat.zero_add]
 by_cases c1 : k < a.length
 · by_cases c2 : k < b.length
   · simp only [ld_br, ld_chk', ld_leaf, fd_br, fd_chk', fd_leaf, decide_true, decide_eq_true_eq, if_true, Int.toNat_natCast, Int.natCast_nonneg, Int.ofNat_lt, Int.ofNat_le, Bool.false_eq_true, if_false, bne_iff_ne, beq_iff_eq, ne_eq, not_true_eq_false, not_false_eq_true, Bool.not_eq_true', decide_eq_false_iff_not, reduceCtorEq, rows_length, er_ok, er_ok', dr_er, isRows_rows, toRows_rows, rows_take, rows_drop, rows_append, ints_length, isInts_ints, toInts_ints, ei_i, ei_ok, mk_headD, ints_take, ints_drop, ints_append, ints_snoc, ints_snoc', List.take_length, Nat.zero_add, Nat.le_refl, er_a, er_b, er_k, er_n, er_s, er_v, c1, c2, List.getD_eq_getElem?_getD, List.getElem?_eq_getElem c1, List.getElem?_eq_getElem c2, Option.getD_some, byteEq]
     rw [sharedL_drop c1 c2] at hi
     by_cases c3 : a[k] = b[k]
     · rw [if_pos c3] at hi
       exact .inl ⟨k + 1, ⟨by omega, by omega⟩, by omega, by rw [if_pos c3, wrap_succ (by omega)]⟩
     · rw [if_neg c3] at hi
       obtain ⟨x, rfl, hx⟩ := stop (by rw [sharedL_drop c1 c2, if_neg c3])
       exact .inr ⟨_, by simp, hx, by rw [if_neg c3]⟩
   · obtain ⟨x, rfl, hx⟩ := stop (sharedL_end (by omega))
     exact .inr ⟨_, by simp, hx, by simp only [ld_br, ld_chk', ld_leaf, fd_br, fd_chk', fd_leaf, decide_true, decide_eq_true_eq, if_true, Int.toNat_natCast, Int.natCast_nonneg, Int.ofNat_lt, Int.ofNat_le, Bool.false_eq_true, if_false, bne_iff_ne, beq_iff_eq, ne_eq, not_true_eq_false, not_false_eq_true, Bool.not_eq_true', decide_eq_false_iff_not, reduceCtorEq, rows_length, er_ok, er_ok', dr_er, isRows_rows, toRows_rows, rows_take, rows_drop, rows_append, ints_length, isInts_ints, toInts_ints, ei_i, ei_ok, mk_headD, ints_take, ints_drop, ints_append, ints_snoc, ints_snoc', List.take_length, Nat.zero_add, Nat.le_refl, er_a, er_b, er_k, er_n, er_s, er_v, c1, c2]⟩
 · obtain ⟨x, rfl, hx⟩ := stop (sharedL_end (by omega))
   exact .inr ⟨_, by simp, hx, by simp only [ld_br, ld_chk', ld_leaf, fd_br, fd_chk', fd_leaf, decide_true, decide_eq_true_eq, if_true, Int.toNat_natCast, Int.natCast_nonneg, Int.ofNat_lt, Int.ofNat_le, Bool.false_eq_true, if_false, bne_iff_ne, beq_iff_eq, ne_eq, not_true_eq_false, not_false_eq_true, Bool.not_eq_true', decide_eq_false_iff_not, reduceCtorEq, rows_length, er_ok, er_ok', dr_er, isRows_rows, toRows_rows, rows_take, rows_drop, rows_append, ints_length, isInts_ints, toInts_ints, ei_i, ei_ok, mk_headD, ints_take, ints_drop, ints_append, ints_snoc, ints_snoc', List.take_length, Nat.zero_add, Nat.le_refl, er_a, er_b, er_k, er_n, er_s, er_v, c1]⟩
def s128 : CSpec := fun a h => match a, h with
 | [.c (.str a), .c (.str b)], [] => some ([decide (a.length < 9223372036854775807)], [V.i (sharedL a b)], [])
 | _, _ => none
theorem s128_ok : CSpecOk E 128 s128 := by
 intro a h cs vals h' he hc
 unfold s128 at he
 split at he <;> simp only [Option.some.injEq, Prod.mk.injEq, reduceCtorEq] at he
 obtain ⟨rfl, rfl, rfl⟩ := he
 simp only [allT, Bool.and_true, Bool.and_eq_true, decide_eq_true_eq] at hc
 skip
 exact f128 _ _ hc
@[reducible] def VT (t : Nd) : V := .agg [.c (.str t.lab), .c (.sl 5 none false (rows t.rows)), .c (.sl 3 none false (encL t.kids))]
def s129 : CSpec := fun a h => match a, h with
 | [.agg [.c (.str s), .c (.sl 5 none false xs), .c (.sl 3 none false ys)], .c (.int .i64 n)], [] => some ([isRows xs, isL ys, decide (0 <= n), decide (n <= s.length)], [VT (splitN (.node s (toRows xs) (decL ys)) n.toNat)], [])
 | _, _ => none
theorem f129 (s : Bys) (rs : List Row) (ks : List Nd) (n : Int) (h0 : 0 <= n) (h1 : n <= s.length) :
   call E 129 [.agg [.c (.str s), .c (.sl 5 none false (rows rs)), .c (.sl 3 none false (encL ks))], V.i n] [] = some ([VT (splitN (.node s rs ks) n.toNat)], []) := by
 refine call_of (E := E) (sh := sh) (ct := ctOf []) (na := 2) (m := 0) ctOf_nil rfl rfl rfl rfl rfl rfl ?_
 rw [t129]
 have h2 : n.toNat <= s.length := by omega
 simp only [ld_br, ld_chk', ld_leaf, fd_br, fd_chk', fd_leaf, decide_true, decide_eq_true_eq, if_true, Int.toNat_natCast, Int.natCast_nonneg, Int.ofNat_lt, Int.ofNat_le, Bool.false_eq_true, if_false, bne_iff_ne, beq_iff_eq, ne_eq, not_true_eq_false, not_false_eq_true, Bool.not_eq_true', decide_eq_false_iff_not, reduceCtorEq, rows_length, er_ok, er_ok', dr_er, isRows_rows, toRows_rows, rows_take, rows_drop, rows_append, ints_length, isInts_ints, toInts_ints, ei_i, ei_ok, mk_headD, ints_take, ints_drop, ints_append, ints_snoc, ints_snoc', List.take_length, Nat.zero_add, Nat.le_refl, er_a, er_b, er_k, er_n, er_s, er_v, h0, h2]
 simp only [VT, splitN, Nd.lab_node, Nd.rows_node, Nd.kids_node, encL, Nd.enc]
 rfl
theorem s129_ok : CSpecOk E 129 s129 := by
 intro a h cs vals h' he hc
 unfold s129 at he
 split at he <;> simp only [Option.some.injEq, Prod.mk.injEq, reduceCtorEq] at he
 rename_i s xs ys n
 obtain ⟨rfl, rfl, rfl⟩ := he
 simp only [allT, Bool.and_true, Bool.and_eq_true, decide_eq_true_eq] at hc
 obtain ⟨h1, h2, h3, h4⟩ := hc
 obtain ⟨rs, rfl⟩ := rows_ex h1
 obtain ⟨ks, rfl⟩ := isL_ex h2
 simp only [toRows_rows, decL_enc]
 exact f129 s rs ks n h3 h4
def s123b : CSpec := fun a h => match a, h with
 | [.buf 0 0 0 len, .c (.int .u8 b), .fn 136 []], [.mem 3 0 xs] => some ([isL xs, decide (len = xs.length), labsOk (decL xs), decide (0 <= b), decide (b <= 255), decide (xs.length < 4294967296)], [V.i (posK (decL xs) b), V.b (hitK (decL xs) b)], [.mem 3 0 xs])
 | _, _ => none
theorem enc_len (t : Nd) : t.enc.length = 3 := by rw [Nd.enc_eq]; rfl
theorem enc_take (t : Nd) : t.enc.take 3 = t.enc := by rw [Nd.enc_eq]; rfl
theorem f123b (l : List Nd) (b : Int) (hl : labsOk l = true) (h0 : 0 <= b) (h1 : b <= 255) (hlen : l.length < 4294967296) : call E 135 [.buf 0 0 0 l.length, .c (.int .u8 b), .fn 136 []] [.mem 3 0 (encL l)] = some ([V.i (posK l b), V.b (hitK l b)], [.mem 3 0 (encL l)]) := by
 have hct : (ctOf [(136, s136)]).ok E := ctOf_cons s136_ok ctOf_nil
 refine call_of (E := E) (sh := sh) (ct := ctOf [(136, s136)]) (na := 3) (m := 1) hct rfl rfl rfl rfl rfl rfl ?_
 show p123b.fd (p123b.ft _ _) = _
 rw [t123b]
 refine fd_post hct (by kernel_rfl) rfl (loops_post (p := p123b) hct (b := b123b_0) (ι := Nat × Nat) (fun i => s123b_0 l.length (encL l) b l.length i.1 i.2) (fun i => i.1 <= i.2 /\ i.2 <= l.length /\ bsK l b (i.2 - i.1) i.1 i.2 = posK l b) (fun i => i.2 - i.1) _ ?_ (0, l.length) ⟨Nat.zero_le _, Nat.le_refl _, rfl⟩)
 rintro ⟨lo, hi⟩ ⟨g1, g2, g9003⟩
 dsimp only at g1 g2 g9003 ⊢
 rw [t123b_0]
 by_cases hlt : lo < hi
 · have hm : (lo + hi) / 2 < l.length := by omega
   left
   rw [half_wrap (by omega)]
   have hne := labs_mem hl hm
   simp only [nd_ok, nd_lab, nd_rows, nd_kids, encL_length, isL_enc, decL_enc, wrap_hd, hd_pos, ld_br, ld_chk', ld_leaf, fd_br, fd_chk', fd_leaf, decide_true, decide_eq_true_eq, if_true, Int.toNat_natCast, Int.natCast_nonneg, Int.ofNat_lt, Int.ofNat_le, Bool.false_eq_true, if_false, bne_iff_ne, beq_iff_eq, ne_eq, not_true_eq_false, not_false_eq_true, Bool.not_eq_true', decide_eq_false_iff_not, reduceCtorEq, rows_length, er_ok, er_ok', dr_er, isRows_rows, toRows_rows, rows_take, rows_drop, rows_append, ints_length, isInts_ints, toInts_ints, ei_i, ei_ok, mk_headD, ints_take, ints_drop, ints_append, ints_snoc, ints_snoc', List.take_length, Nat.zero_add, Nat.le_refl, er_a, er_b, er_k, er_n, er_s, er_v, Int.ofNat_lt, hlt, hm, encL_getD hm, hne, h0, h1, enc_len, enc_take]
   have e : hi - lo = (hi - lo - 1) + 1 := by omega
   rw [e, bsK, if_pos hlt, getD_at' hm] at g9003
   by_cases hb : hdB l[(lo + hi) / 2].lab < b
   · rw [if_pos hb] at g9003
     refine ⟨((lo + hi) / 2 + 1, hi), ⟨by dsimp only; omega, g2, ?_⟩, by dsimp only; omega, ?_⟩
     · rw [<- g9003]; exact bsK_fuel l b _ _ _ _ (by omega) (by omega)
     · rw [wrap_succ (by omega), if_pos (show hdB l[(lo + hi) / 2].lab - b < 0 by omega)]
   · rw [if_neg hb] at g9003
     refine ⟨(lo, (lo + hi) / 2), ⟨by dsimp only; omega, by dsimp only; omega, ?_⟩, by dsimp only; omega, ?_⟩
     · rw [<- g9003]; exact bsK_fuel l b _ _ _ _ (by omega) (by omega)
     · rw [if_neg (show ¬ hdB l[(lo + hi) / 2].lab - b < 0 by omega)]
 · obtain rfl : lo = hi := by omega
   right
   rw [bsK_end l b _ (by omega)] at g9003
   refine ⟨x123b_0x0 l.length (encL l) b l.length lo lo, by simp, ?_, by simp only [nd_ok, nd_lab, nd_rows, nd_kids, encL_length, isL_enc, decL_enc, wrap_hd, hd_pos, ld_br, ld_chk', ld_leaf, fd_br, fd_chk', fd_leaf, decide_true, decide_eq_true_eq, if_true, Int.toNat_natCast, Int.natCast_nonneg, Int.ofNat_lt, Int.ofNat_le, Bool.false_eq_true, if_false, bne_iff_ne, beq_iff_eq, ne_eq, not_true_eq_false, not_false_eq_true, Bool.not_eq_true', decide_eq_false_iff_not, reduceCtorEq, rows_length, er_ok, er_ok', dr_er, isRows_rows, toRows_rows, rows_take, rows_drop, rows_append, ints_length, isInts_ints, toInts_ints, ei_i, ei_ok, mk_headD, ints_take, ints_drop, ints_append, ints_snoc, ints_snoc', List.take_length, Nat.zero_add, Nat.le_refl, er_a, er_b, er_k, er_n, er_s, er_v, Int.lt_irrefl]⟩
   rw [k123b_0x0]
   simp only [nd_ok, nd_lab, nd_rows, nd_kids, encL_length, isL_enc, decL_enc, wrap_hd, hd_pos, ld_br, ld_chk', ld_leaf, fd_br, fd_chk', fd_leaf, decide_true, decide_eq_true_eq, if_true, Int.toNat_natCast, Int.natCast_nonneg, Int.ofNat_lt, Int.ofNat_le, Bool.false_eq_true, if_false, bne_iff_ne, beq_iff_eq, ne_eq, not_true_eq_false, not_false_eq_true, Bool.not_eq_true', decide_eq_false_iff_not, reduceCtorEq, rows_length, er_ok, er_ok', dr_er, isRows_rows, toRows_rows, rows_take, rows_drop, rows_append, ints_length, isInts_ints, toInts_ints, ei_i, ei_ok, mk_headD, ints_take, ints_drop, ints_append, ints_snoc, ints_snoc', List.take_length, Nat.zero_add, Nat.le_refl, er_a, er_b, er_k, er_n, er_s, er_v, Int.ofNat_lt, g9003, hitK]
   by_cases hr : posK l b < l.length
   · have hne := labs_mem hl hr
     have e : (hdB l[posK l b].lab - b == 0) = decide (hdB l[posK l b].lab = b) := by
       rw [Bool.eq_iff_iff]; simp; omega
     simp only [hr, if_true, encL_getD hr, nd_ok, nd_lab, nd_rows, nd_kids, encL_length, isL_enc, decL_enc, wrap_hd, hd_pos, ld_br, ld_chk', ld_leaf, fd_br, fd_chk', fd_leaf, decide_true, decide_eq_true_eq, if_true, Int.toNat_natCast, Int.natCast_nonneg, Int.ofNat_lt, Int.ofNat_le, Bool.false_eq_true, if_false, bne_iff_ne, beq_iff_eq, ne_eq, not_true_eq_false, not_false_eq_true, Bool.not_eq_true', decide_eq_false_iff_not, reduceCtorEq, rows_length, er_ok, er_ok', dr_er, isRows_rows, toRows_rows, rows_take, rows_drop, rows_append, ints_length, isInts_ints, toInts_ints, ei_i, ei_ok, mk_headD, ints_take, ints_drop, ints_append, ints_snoc, ints_snoc', List.take_length, Nat.zero_add, Nat.le_refl, er_a, er_b, er_k, er_n, er_s, er_v, hne, h0, h1, e, getD_at' hr, Bool.true_and, enc_len, enc_take]
   · simp only [hr, if_false, decide_false, Bool.false_and]
theorem s123b_ok : CSpecOk E 135 s123b := by
 intro a h cs vals h' he hc
 unfold s123b at he
 split at he <;> simp only [Option.some.injEq, Prod.mk.injEq, reduceCtorEq] at he
 rename_i len b xs
 obtain ⟨rfl, rfl, rfl⟩ := he
 simp only [allT, Bool.and_true, Bool.and_eq_true, decide_eq_true_eq] at hc
 obtain ⟨h1, rfl, h2, h3, h4, h5⟩ := hc
 obtain ⟨l, rfl⟩ := isL_ex h1
 simp only [decL_enc, encL_length] at *
 exact f123b l b h2 h3 h4 h5
end Go.Proofs.YtgaabjmbnomimaaGreatDoor
namespace Go.Proofs.YtgaabjmbnomimaaGreatDoor
open Go Go.Ev
-- cse
noncomputable abbrev p66b : Par := par E sh (ctOf [(135, s123b)]) 76 2 1
theorem t66b (len : Nat) (xs : LLC) (b : Int) : p66b.ft ([V.buf 0 0 0 len, V.c (C.int IntKind.u8 b)]) ([O.mem 3 0 xs]) = (Tr.chk (isL xs) (Tr.chk (decide (len = xs.length)) (Tr.chk (labsOk (decL xs)) (Tr.chk (decide (0 <= b)) (Tr.chk (decide (b <= 255)) (Tr.chk (decide (xs.length < 4294967296)) (Tr.leaf (R.out [V.c (C.int IntKind.i64 (↑(posK (decL xs) b) : Int)), V.c (C.bool (hitK (decL xs) b))] [O.mem 3 0 xs])))))))) := by kernel_rfl
def s66b : CSpec := fun a h => match a, h with
 | [.buf 0 0 0 len, .c (.int .u8 b)], [.mem 3 0 xs] => some ([isL xs, decide (len = xs.length), labsOk (decL xs), decide (0 <= b), decide (b <= 255), decide (xs.length < 4294967296)], [V.i (posK (decL xs) b), V.b (hitK (decL xs) b)], [.mem 3 0 xs])
 | _, _ => none
noncomputable abbrev p130 : Par := par E sh (ctOf [(126, s126)]) 130 1 0
theorem t130 (s : Bys) (xs : LLC) (ys : LLC) : p130.ft ([V.agg [V.c (C.str s), V.c (C.sl 5 none false xs), V.c (C.sl 3 none false ys)]]) ([]) = (Tr.br (decide (0 < (↑xs.length : Int))) (Tr.leaf (R.out [V.agg [V.c (C.str s), V.c (C.sl 5 none false xs), V.c (C.sl 3 none false ys)], V.c (C.bool true)] [])) (Tr.br (decide (1 < (↑ys.length : Int))) (Tr.leaf (R.out [V.agg [V.c (C.str s), V.c (C.sl 5 none false xs), V.c (C.sl 3 none false ys)], V.c (C.bool true)] [])) (Tr.br ((↑ys.length : Int) == 0) (Tr.leaf (R.out [V.agg [V.c (C.str []), V.c (C.sl 5 none false []), V.c (C.sl 3 none false [])], V.c (C.bool false)] [])) (Tr.chk true (Tr.chk true (Tr.chk (decide (Int.toNat 0 < ys.length)) (Tr.chk (shOk [Sk.str, Sk.sl 5, Sk.sl 3] (ys.getD (Int.toNat 0) [])) (Tr.chk (decide (((ys.getD (Int.toNat 0) []).tail.tail.headD C.pnil).xs.length < 4294967296)) (Tr.chk (decide (s.length + ((ys.getD (Int.toNat 0) []).headD C.pnil).st.length < 4294967296)) (Tr.leaf (R.out [V.agg [V.c (C.str (s ++ ((ys.getD (Int.toNat 0) []).headD C.pnil).st)), V.c (C.sl 5 none false ((ys.getD (Int.toNat 0) []).tail.headD C.pnil).xs), V.c (C.sl 3 none false (List.take ((ys.getD (Int.toNat 0) []).tail.tail.headD C.pnil).xs.length ((ys.getD (Int.toNat 0) []).tail.tail.headD C.pnil).xs))], V.c (C.bool true)] []))))))))))) := by kernel_rfl
def joinB (t : Nd) : Bool := (joinN t).isSome
def joinD (t : Nd) : Nd := (joinN t).getD (.node [] [] [])
def s130 : CSpec := fun a h => match a, h with
 | [.agg [.c (.str s), .c (.sl 5 none false xs), .c (.sl 3 none false ys)]], [] => some ([isRows xs, isL ys, decide (s.length <= 24), decide (okL (decL ys) 24 (-1) = true)], [VT (joinD (.node s (toRows xs) (decL ys))), V.b (joinB (.node s (toRows xs) (decL ys)))], [])
 | _, _ => none
def s127 : CSpec := fun a h => match a, h with
 | [.buf 0 0 0 len, .c (.int .i64 i), .buf 1 0 0 1], [.mem 3 0 xs, .mem 3 0 [x]] => some ([decide (len = xs.length), decide (0 <= i), decide (i <= len), decide (len < 4294967294)], [.buf 0 1 0 (len + 1)], [.mem 3 1 (xs.take i.toNat ++ x.map wkC :: xs.drop i.toNat), .mem 3 0 [x.map wkC]])
 | _, _ => none
def s131 : CSpec := fun a h => match a, h with
 | [.buf 0 0 0 len, .c (.int .i64 i), .c (.int .i64 j)], [.mem 3 0 xs] => some ([decide (len = xs.length), decide (0 <= i), decide (i < len), decide (j = i + 1), decide (len < 4294967296)], [.buf 0 1 0 (len - 1)], [.mem 3 1 (xs.take i.toNat ++ xs.drop (i.toNat + 1))])
 | _, _ => none
variable (dd : Nat)
def s69 : CSpec := fun a h => match a, h with
 | [.agg [.c (.str s), .c (.sl 5 rn rt xs), .c (.sl 3 kn kt ys)], .c (.str p), .c (.sl 5 qn qt zs)], [] => some ([isRows xs, isL ys, isRows zs, okL (decL ys) 24 (-1), right (toRows xs), right (toRows zs), decide (s.length <= 24), decide (qn ≠ some true \/ zs = []), decide (p.length < dd), decide (p.length <= 24)], [VT (putN (p.length + 1) (.node s (toRows xs) (decL ys)) p (toRows zs))], [])
 | _, _ => none
noncomputable abbrev p69 : Par := par E sh (ctOf [(126, s126), (78, s78), (76, s66b), (127, s127), (128, s128), (129, s129), (130, s130), (131, s131), (69, s69 dd)]) 69 3 0
abbrev c69_1 (ys : LLC) (p : Bys) := (posK (decL ys) (↑(p.getD (Int.toNat 0) 0).toNat : Int))
abbrev c69_2 (ys : LLC) (p : Bys) := (List.take 3 (ys.getD (0 + (↑(c69_1 ys p) : Int).toNat) []))
abbrev c69_3 (ys : LLC) (p : Bys) := (sharedL ((c69_2 ys p).headD C.pnil).st p)
abbrev c69_4 (ys : LLC) (p : Bys) := (splitN (Nd.node ((c69_2 ys p).headD C.pnil).st (toRows ((c69_2 ys p).tail.headD C.pnil).xs) (decL ((c69_2 ys p).tail.tail.headD C.pnil).xs)) (↑(c69_3 ys p) : Int).toNat)
abbrev c69_5 (ys : LLC) (p : Bys) := (Nd.node (c69_4 ys p).lab (toRows (rows (c69_4 ys p).rows)) (decL (encL (c69_4 ys p).kids)))
abbrev c69_6 (ys : LLC) (p : Bys) := (List.drop (↑(c69_3 ys p) : Int).toNat (List.take p.length p))
abbrev c69_7 (ys : LLC) (p : Bys) (zs : LLC) := (putN ((c69_6 ys p).length + 1) (Nd.node ((c69_2 ys p).headD C.pnil).st (toRows ((c69_2 ys p).tail.headD C.pnil).xs) (decL ((c69_2 ys p).tail.tail.headD C.pnil).xs)) (c69_6 ys p) (toRows zs))
abbrev c69_8 (ys : LLC) (p : Bys) (zs : LLC) := (putN ((c69_6 ys p).length + 1) (c69_5 ys p) (c69_6 ys p) (toRows zs))
abbrev c69_9 (ys : LLC) (p : Bys) (zs : LLC) := (Nd.node (c69_8 ys p zs).lab (toRows (rows (c69_8 ys p zs).rows)) (decL (encL (c69_8 ys p zs).kids)))
abbrev c69_10 (ys : LLC) (p : Bys) (zs : LLC) := (Nd.node (c69_7 ys p zs).lab (toRows (rows (c69_7 ys p zs).rows)) (decL (encL (c69_7 ys p zs).kids)))
abbrev c69_11 (ys : LLC) (p : Bys) (zs : LLC) := (ys.set (0 + (↑(c69_1 ys p) : Int).toNat) [C.str (joinD (c69_10 ys p zs)).lab, C.sl 5 none false (rows (joinD (c69_10 ys p zs)).rows), C.sl 3 none false (encL (joinD (c69_10 ys p zs)).kids)])
abbrev c69_12 (ys : LLC) (p : Bys) (zs : LLC) := (ys.set (0 + (↑(c69_1 ys p) : Int).toNat) [C.str (joinD (c69_9 ys p zs)).lab, C.sl 5 none false (rows (joinD (c69_9 ys p zs)).rows), C.sl 3 none false (encL (joinD (c69_9 ys p zs)).kids)])
theorem t69 (s : Bys) (rn : OBo) (rt : Bool) (xs : LLC) (kn : OBo) (kt : Bool) (ys : LLC) (p : Bys) (qn : OBo) (qt : Bool) (zs : LLC) : (p69 dd).ft ([V.agg [V.c (C.str s), V.c (C.sl 5 rn rt xs), V.c (C.sl 3 kn kt ys)], V.c (C.str p), V.c (C.sl 5 qn qt zs)]) ([]) = (Tr.chk (decide (ys.length < 4294967296)) (Tr.br (p == []) (Tr.chk (decide (zs.length < 4294967296)) (Tr.chk (decide (qn ≠ some true \/ zs = [])) (Tr.leaf (R.out [V.agg [V.c (C.str s), V.c (C.sl 5 none false zs), V.c (C.sl 3 none false (List.take ys.length ys))]] [])))) (Tr.chk true (Tr.chk (decide (Int.toNat 0 < p.length)) (Tr.chk (isL ys) (Tr.chk (decide (ys.length = ys.length)) (Tr.chk (labsOk (decL ys)) (Tr.chk true (Tr.chk (decide ((↑(p.getD (Int.toNat 0) 0).toNat : Int) <= 255)) (Tr.chk (decide (ys.length < 4294967296)) (Tr.br (!hitK (decL ys) (↑(p.getD (Int.toNat 0) 0).toNat : Int)) (Tr.br (decide (0 < (↑zs.length : Int))) (Tr.chk (decide (zs.length < 4294967296)) (Tr.chk (decide (qn ≠ some true \/ zs = [])) (Tr.chk (decide (ys.length = ys.length)) (Tr.chk true (Tr.chk (decide ((↑(c69_1 ys p) : Int) <= (↑ys.length : Int))) (Tr.chk (decide (ys.length < 4294967294)) (Tr.leaf (R.out [V.agg [V.c (C.str s), V.c (C.sl 5 none false xs), V.c (C.sl 3 none false (List.take (ys.length + 1) (List.take (↑(c69_1 ys p) : Int).toNat ys ++ List.map wkC (List.take 3 [C.str p, C.sl 5 none false zs, C.sl 3 (some true) true []]) :: List.drop (↑(c69_1 ys p) : Int).toNat ys)))]] [])))))))) (Tr.leaf (R.out [V.agg [V.c (C.str s), V.c (C.sl 5 none false xs), V.c (C.sl 3 none false (List.take ys.length ys))]] []))) (Tr.chk true (Tr.chk (decide ((↑(c69_1 ys p) : Int) < (↑ys.length : Int))) (Tr.chk true (Tr.chk true (Tr.chk true (Tr.chk (decide (0 + (↑(c69_1 ys p) : Int).toNat < ys.length)) (Tr.chk (decide (3 <= (ys.getD (0 + (↑(c69_1 ys p) : Int).toNat) []).length)) (Tr.chk (shOk [Sk.str, Sk.sl 5, Sk.sl 3] (c69_2 ys p)) (Tr.chk (decide (((c69_2 ys p).headD C.pnil).st.length < 9223372036854775807)) (Tr.br (decide ((↑(c69_3 ys p) : Int) < (↑((c69_2 ys p).headD C.pnil).st.length : Int))) (Tr.br ((↑zs.length : Int) == 0) (Tr.leaf (R.out [V.agg [V.c (C.str s), V.c (C.sl 5 none false xs), V.c (C.sl 3 none false (List.take ys.length ys))]] [])) (Tr.chk (isRows ((c69_2 ys p).tail.headD C.pnil).xs) (Tr.chk (isL ((c69_2 ys p).tail.tail.headD C.pnil).xs) (Tr.chk true (Tr.chk (decide ((↑(c69_3 ys p) : Int) <= (↑((c69_2 ys p).headD C.pnil).st.length : Int))) (Tr.chk true (Tr.chk (decide ((↑(c69_3 ys p) : Int).toNat <= p.length)) (Tr.chk (decide (p.length <= p.length)) (Tr.chk true (Tr.chk (isL (encL (c69_4 ys p).kids)) (Tr.chk (isRows zs) (Tr.chk (okL (decL (encL (c69_4 ys p).kids)) 24 (-1)) (Tr.chk true (Tr.chk (right (toRows zs)) (Tr.chk (decide ((c69_4 ys p).lab.length <= 24)) (Tr.chk (decide (qn ≠ some true \/ zs = [])) (Tr.chk (decide ((c69_6 ys p).length < dd)) (Tr.chk (decide ((c69_6 ys p).length <= 24)) (Tr.chk (isRows (rows (c69_8 ys p zs).rows)) (Tr.chk (isL (encL (c69_8 ys p zs).kids)) (Tr.chk (decide ((c69_8 ys p zs).lab.length <= 24)) (Tr.chk (decide (okL (decL (encL (c69_8 ys p zs).kids)) 24 (-1) = true)) (Tr.chk true (Tr.chk (decide ((↑(c69_1 ys p) : Int) < (↑ys.length : Int))) (Tr.chk true (Tr.chk true (Tr.chk true (Tr.chk (decide (0 + (↑(c69_1 ys p) : Int).toNat < ys.length)) (Tr.chk true (Tr.chk (decide ((ys.getD (0 + (↑(c69_1 ys p) : Int).toNat) []).length = 3)) (Tr.br (!joinB (c69_9 ys p zs)) (Tr.chk (decide (ys.length = (c69_12 ys p zs).length)) (Tr.chk true (Tr.chk (decide ((↑(c69_1 ys p) : Int) < (↑ys.length : Int))) (Tr.chk (decide (IntKind.i64.wrap ((↑(c69_1 ys p) : Int) + 1) = (↑(c69_1 ys p) : Int) + 1)) (Tr.chk (decide (ys.length < 4294967296)) (Tr.leaf (R.out [V.agg [V.c (C.str s), V.c (C.sl 5 none false xs), V.c (C.sl 3 none false (List.take (ys.length - 1) (List.take (↑(c69_1 ys p) : Int).toNat (c69_12 ys p zs) ++ List.drop ((↑(c69_1 ys p) : Int).toNat + 1) (c69_12 ys p zs))))]] []))))))) (Tr.leaf (R.out [V.agg [V.c (C.str s), V.c (C.sl 5 none false xs), V.c (C.sl 3 none false (List.take ys.length (c69_12 ys p zs)))]] []))))))))))))))))))))))))))))))))) (Tr.chk true (Tr.chk (decide ((↑(c69_3 ys p) : Int).toNat <= p.length)) (Tr.chk (decide (p.length <= p.length)) (Tr.chk (isRows ((c69_2 ys p).tail.headD C.pnil).xs) (Tr.chk (isL ((c69_2 ys p).tail.tail.headD C.pnil).xs) (Tr.chk (isRows zs) (Tr.chk (okL (decL ((c69_2 ys p).tail.tail.headD C.pnil).xs) 24 (-1)) (Tr.chk (right (toRows ((c69_2 ys p).tail.headD C.pnil).xs)) (Tr.chk (right (toRows zs)) (Tr.chk (decide (((c69_2 ys p).headD C.pnil).st.length <= 24)) (Tr.chk (decide (qn ≠ some true \/ zs = [])) (Tr.chk (decide ((c69_6 ys p).length < dd)) (Tr.chk (decide ((c69_6 ys p).length <= 24)) (Tr.chk (isRows (rows (c69_7 ys p zs).rows)) (Tr.chk (isL (encL (c69_7 ys p zs).kids)) (Tr.chk (decide ((c69_7 ys p zs).lab.length <= 24)) (Tr.chk (decide (okL (decL (encL (c69_7 ys p zs).kids)) 24 (-1) = true)) (Tr.chk true (Tr.chk (decide ((↑(c69_1 ys p) : Int) < (↑ys.length : Int))) (Tr.chk true (Tr.chk true (Tr.chk true (Tr.chk (decide (0 + (↑(c69_1 ys p) : Int).toNat < ys.length)) (Tr.chk true (Tr.chk (decide ((ys.getD (0 + (↑(c69_1 ys p) : Int).toNat) []).length = 3)) (Tr.br (!joinB (c69_10 ys p zs)) (Tr.chk (decide (ys.length = (c69_11 ys p zs).length)) (Tr.chk true (Tr.chk (decide ((↑(c69_1 ys p) : Int) < (↑ys.length : Int))) (Tr.chk (decide (IntKind.i64.wrap ((↑(c69_1 ys p) : Int) + 1) = (↑(c69_1 ys p) : Int) + 1)) (Tr.chk (decide (ys.length < 4294967296)) (Tr.leaf (R.out [V.agg [V.c (C.str s), V.c (C.sl 5 none false xs), V.c (C.sl 3 none false (List.take (ys.length - 1) (List.take (↑(c69_1 ys p) : Int).toNat (c69_11 ys p zs) ++ List.drop ((↑(c69_1 ys p) : Int).toNat + 1) (c69_11 ys p zs))))]] []))))))) (Tr.leaf (R.out [V.agg [V.c (C.str s), V.c (C.sl 5 none false xs), V.c (C.sl 3 none false (List.take ys.length (c69_11 ys p zs)))]] []))))))))))))))))))))))))))))))))))))))))))))))))) := by kernel_rfl
end Go.Proofs.YtgaabjmbnomimaaGreatDoor
namespace Go.Proofs.YtgaabjmbnomimaaGreatDoor
open Go Go.Ev
mutual
theorem okT_mono : ∀ (t : Nd) (n m : Nat), n <= m -> okT t n = true -> okT t m = true
 | .node lab rs ks, n, m, h, ht => by
   obtain ⟨g1, g2, g9003, g9004, g9005⟩ := okT_iff.1 ht
   simp only [Nd.lab_node, Nd.rows_node, Nd.kids_node] at g1 g2 g9003 g9004 g9005
   refine okT_iff.2 ⟨g1, ?_, g9003, g9004, kidsOk_mono ks _ _ ?_ g9005⟩
   · simp only [Nd.lab_node]; omega
   · simp only [Nd.lab_node]; omega
theorem kidsOk_mono : ∀ (l : List Nd) (n m : Nat), n <= m -> kidsOk l n -> kidsOk l m
 | [], _, _, _, _ => ⟨by simp, by simp⟩
 | t :: r, n, m, h, hk => by
   have h1 := okT_mono t n m h (hk.1 t (by simp))
   have h2 := kidsOk_mono r n m h (kidsOk_sub hk (List.sublist_cons_self _ _))
   exact ⟨fun u hu => by rcases List.mem_cons.1 hu with rfl | hu; exact h1; exact h2.1 u hu, hk.2⟩
end
theorem f66b (l : List Nd) (b : Int) (hl : labsOk l = true) (h0 : 0 <= b) (h1 : b <= 255) (hlen : l.length < 4294967296) : call E 76 [.buf 0 0 0 l.length, .c (.int .u8 b)] [.mem 3 0 (encL l)] = some ([V.i (posK l b), V.b (hitK l b)], [.mem 3 0 (encL l)]) := by
 refine call_of (E := E) (sh := sh) (ct := ctOf [(135, s123b)]) (na := 2) (m := 1) (ctOf_cons s123b_ok ctOf_nil) rfl rfl rfl rfl rfl rfl ?_
 rw [t66b]
 simp only [nd_ok, nd_lab, nd_rows, nd_kids, encL_length, isL_enc, decL_enc, wrap_hd, hd_pos, ld_br, ld_chk', ld_leaf, fd_br, fd_chk', fd_leaf, decide_true, decide_eq_true_eq, if_true, Int.toNat_natCast, Int.natCast_nonneg, Int.ofNat_lt, Int.ofNat_le, Bool.false_eq_true, if_false, bne_iff_ne, beq_iff_eq, ne_eq, not_true_eq_false, not_false_eq_true, Bool.not_eq_true', decide_eq_false_iff_not, reduceCtorEq, rows_length, er_ok, er_ok', dr_er, isRows_rows, toRows_rows, rows_take, rows_drop, rows_append, ints_length, isInts_ints, toInts_ints, ei_i, ei_ok, mk_headD, ints_take, ints_drop, ints_append, ints_snoc, ints_snoc', List.take_length, Nat.zero_add, Nat.le_refl, er_a, er_b, er_k, er_n, er_s, er_v, hl, h0, h1, hlen]
theorem s66b_ok : CSpecOk E 76 s66b := by
 intro a h cs vals h' he hc
 unfold s66b at he
 split at he <;> simp only [Option.some.injEq, Prod.mk.injEq, reduceCtorEq] at he
 rename_i len b xs
 obtain ⟨rfl, rfl, rfl⟩ := he
 simp only [allT, Bool.and_true, Bool.and_eq_true, decide_eq_true_eq] at hc
 obtain ⟨h1, rfl, h2, h3, h4, h5⟩ := hc
 obtain ⟨l, rfl⟩ := isL_ex h1
 simp only [decL_enc, encL_length] at *
 exact f66b l b h2 h3 h4 h5
theorem f130 (s : Bys) (rs : List Row) (ks : List Nd) (hs : s.length <= 24) (hk : okL ks 24 (-1) = true) :
   call E 130 [.agg [.c (.str s), .c (.sl 5 none false (rows rs)), .c (.sl 3 none false (encL ks))]] [] = some ([VT (joinD (.node s rs ks)), V.b (joinB (.node s rs ks))], []) := by
 refine call_of (E := E) (sh := sh) (ct := ctOf [(126, s126)]) (na := 1) (m := 0) (ctOf_cons s126_ok ctOf_nil) rfl rfl rfl rfl rfl rfl ?_
 rw [t130]
 by_cases c1 : rs = []
 · subst c1
   match ks, hk with
   | [], _ => simp [nd_ok, nd_lab, nd_rows, nd_kids, encL_length, isL_enc, decL_enc, wrap_hd, hd_pos, ld_br, ld_chk', ld_leaf, fd_br, fd_chk', fd_leaf, decide_true, decide_eq_true_eq, if_true, Int.toNat_natCast, Int.natCast_nonneg, Int.ofNat_lt, Int.ofNat_le, Bool.false_eq_true, if_false, bne_iff_ne, beq_iff_eq, ne_eq, not_true_eq_false, not_false_eq_true, Bool.not_eq_true', decide_eq_false_iff_not, reduceCtorEq, rows_length, er_ok, er_ok', dr_er, isRows_rows, toRows_rows, rows_take, rows_drop, rows_append, ints_length, isInts_ints, toInts_ints, ei_i, ei_ok, mk_headD, ints_take, ints_drop, ints_append, ints_snoc, ints_snoc', List.take_length, Nat.zero_add, Nat.le_refl, er_a, er_b, er_k, er_n, er_s, er_v, joinD, joinB, joinN, Nd.rows_node, Nd.kids_node, encL, rows]; rfl
   | [k], hk =>
     have hl := okT_lab (okL_mem hk k (by simp)).1
     have hlen := okL_len hl.2.2 (by omega)
     have e0 : (encL [k]).getD (Int.toNat 0) [] = k.enc := rfl
     have h1 : s.length + k.lab.length < 4294967296 := by omega
     have h2 : k.kids.length < 4294967296 := by omega
     have e1 : ¬ (0 : Int) < (rows ([] : List Row)).length := by decide
     have e2 : ¬ (1 : Int) < (encL [k]).length := by simp
     have e3 : (((encL [k]).length : Int) == 0) = false := rfl
     have e4 : Int.toNat 0 < (encL [k]).length := by simp
     simp only [fd_br, fd_chk', fd_leaf, e0, e1, e2, e3, e4, nd_ok, nd_lab, nd_rows, nd_kids, encL_length, h1, h2, decide_true, decide_false, Bool.false_eq_true, if_true, if_false]
     rw [<- encL_length k.kids, List.take_length]
     rfl
   | k :: k2 :: r, hk =>
     have e2 : (1 : Int) < (encL (k :: k2 :: r)).length := by simp only [encL_length, List.length_cons]; omega
     have e1 : ¬ (0 : Int) < (rows ([] : List Row)).length := by decide
     simp only [fd_br, fd_leaf, e1, e2, decide_true, decide_false, Bool.false_eq_true, if_true, if_false]
     simp [joinD, joinB, joinN, Nd.rows_node, Nd.kids_node, Nd.lab_node]
 · have e1 : (0 : Int) < (rows rs).length := by have := List.length_pos_iff.2 c1; simp only [rows_length]; omega
   simp only [fd_br, fd_leaf, e1, decide_true, if_true]
   simp [joinD, joinB, joinN, Nd.rows_node, Nd.kids_node, Nd.lab_node, c1]
theorem s130_ok : CSpecOk E 130 s130 := by
 intro a h cs vals h' he hc
 unfold s130 at he
 split at he <;> simp only [Option.some.injEq, Prod.mk.injEq, reduceCtorEq] at he
 rename_i s xs ys
 obtain ⟨rfl, rfl, rfl⟩ := he
 simp only [allT, Bool.and_true, Bool.and_eq_true, decide_eq_true_eq] at hc
 obtain ⟨h1, h2, h3, h4⟩ := hc
 obtain ⟨rs, rfl⟩ := rows_ex h1
 obtain ⟨ks, rfl⟩ := isL_ex h2
 simp only [toRows_rows, decL_enc] at *
 exact f130 s rs ks h3 h4
theorem s127_ok : CSpecOk E 127 s127 := fun a h cs vals h' he hc => by
 unfold s127 at he
 split at he <;> simp only [Option.some.injEq, Prod.mk.injEq, reduceCtorEq] at he
 rename_i len i xs x
 obtain ⟨rfl, rfl, rfl⟩ := he
 simp only [allT, Bool.and_true, Bool.and_eq_true, decide_eq_true_eq] at hc
 obtain ⟨h1, h2, h3, h4⟩ := hc
 exact call_ext (f := x127) rfl (by simp only [x127, x118s]; rw [if_pos ⟨trivial, trivial, h1, h2, h3, h4⟩])
theorem s131_ok : CSpecOk E 131 s131 := fun a h cs vals h' he hc => by
 unfold s131 at he
 split at he <;> simp only [Option.some.injEq, Prod.mk.injEq, reduceCtorEq] at he
 rename_i len i j xs
 obtain ⟨rfl, rfl, rfl⟩ := he
 simp only [allT, Bool.and_true, Bool.and_eq_true, decide_eq_true_eq] at hc
 obtain ⟨h1, h2, h3, h4, h5⟩ := hc
 exact call_ext (f := x131) rfl (by simp only [x131]; rw [if_pos ⟨trivial, h1, h2, h3, h4, h5⟩])
theorem encL_set {l : List Nd} {i : Nat} (k : Nd) : (encL l).set i k.enc = encL (l.set i k) := by simp [encL_map, List.map_set]
theorem encL_take (l : List Nd) (n : Nat) : (encL l).take n = encL (l.take n) := by simp [encL_map, List.map_take]
theorem encL_drop (l : List Nd) (n : Nat) : (encL l).drop n = encL (l.drop n) := by simp [encL_map, List.map_drop]
theorem encL_app (a b : List Nd) : encL a ++ encL b = encL (a ++ b) := by simp [encL_map]
theorem encL_all (l : List Nd) : (encL l).take l.length = encL l := by rw [<- encL_length l, List.take_length]
theorem putN_fuel : ∀ (f g : Nat) (t : Nd) (p : Bys) (rs : List Row), p.length < f -> p.length < g -> kidsOk t.kids 24 -> right t.rows = true -> p.length <= 24 -> putN f t p rs = putN g t p rs
 | 0, g, t, p, rs, h, _, _, _, _ => by omega
 | f + 1, 0, t, p, rs, _, h, _, _, _ => by omega
 | f + 1, g + 1, t, [], rs, _, _, _, _, _ => rfl
 | f + 1, g + 1, t, b :: q, rs, hf, hg, hk, hr, hp => by
   simp only [putN]
   split
   · rename_i c1
     split
     · rfl
     · unfold hitK at c1
       simp only [Bool.and_eq_true, decide_eq_true_eq] at c1
       obtain ⟨c1, c2⟩ := c1
       rw [getD_at' c1] at c2
       have hko := hk.1 _ (List.getElem_mem c1)
       have hsp : 0 < sharedL t.kids[posK t.kids (b.toNat : Int)].lab (b :: q) := shared_pos (okT_iff.1 hko).1 (by simp) (by rw [c2, hdB_cons])
       obtain ⟨d1, d2, d3, d4, d5, d6, d7⟩ := downN_ok hko hsp
       rw [getD_at' c1]
       rw [putN_fuel f g _ _ rs (by rw [List.length_drop]; simp only [List.length_cons] at hf hg ⊢; omega) (by rw [List.length_drop]; simp only [List.length_cons] at hf hg ⊢; omega) (kidsOk_mono _ _ _ (by omega) d6) d5 (by rw [List.length_drop]; omega)]
   · rfl
theorem wk_new (p : Bys) (qs : List Row) : List.map wkC (List.take 3 [C.str p, C.sl 5 none false (rows qs), C.sl 3 (some true) true []]) = (Nd.node p qs []).enc := by
 rw [Nd.enc]; rfl
theorem enc_mk (t : Nd) : [C.str t.lab, C.sl 5 none false (rows t.rows), C.sl 3 none false (encL t.kids)] = t.enc := (Nd.enc_eq t).symm
theorem kidsOk_labs {l : List Nd} {n : Nat} (h : kidsOk l n) : labsOk l = true := okL_labs (okL_iff'.2 h)
set_option maxHeartbeats 1000000 in
theorem f69 (dd : Nat) (ih : CSpecOk E 69 (s69 dd)) (s : Bys) (rn : OBo) (rt : Bool) (rs : List Row) (kn : OBo) (kt : Bool) (ks : List Nd) (p : Bys) (qn : OBo) (qt : Bool) (qs : List Row)
   (hk : okL ks 24 (-1) = true) (hr : right rs = true) (hq : right qs = true) (hs : s.length <= 24) (hn : qn ≠ some true \/ rows qs = []) (hd : p.length < dd + 1) (hp : p.length <= 24) :
   call E 69 [.agg [.c (.str s), .c (.sl 5 rn rt (rows rs)), .c (.sl 3 kn kt (encL ks))], .c (.str p), .c (.sl 5 qn qt (rows qs))] [] = some ([VT (putN (p.length + 1) (.node s rs ks) p qs)], []) := by
 have hct : (ctOf [(126, s126), (78, s78), (76, s66b), (127, s127), (128, s128), (129, s129), (130, s130), (131, s131), (69, s69 dd)]).ok E :=
   ctOf_cons s126_ok (ctOf_cons s78_ok (ctOf_cons s66b_ok (ctOf_cons s127_ok (ctOf_cons s128_ok (ctOf_cons s129_ok (ctOf_cons s130_ok (ctOf_cons s131_ok (ctOf_cons ih ctOf_nil))))))))
 refine call_of (E := E) (sh := sh) (ct := ctOf [(126, s126), (78, s78), (76, s66b), (127, s127), (128, s128), (129, s129), (130, s130), (131, s131), (69, s69 dd)]) (na := 3) (m := 0) hct rfl rfl rfl rfl rfl rfl ?_
 show (p69 dd).fd ((p69 dd).ft _ _) = _
 have hkK := okL_iff'.1 hk
 have hlen := okL_len hk (by omega)
 have hl1 : ks.length < 4294967294 := by omega
 have hl2 : ks.length < 4294967296 := by omega
 have hql := right_len4 hq
 have hq1 : qs.length < 4294967296 := by omega
 rw [t69]
 cases p with
 | nil =>
   have hnil : (([] : Bys) == []) = true := rfl
   simp only [fd_br, fd_chk', fd_leaf, hnil, encL_length, rows_length, hl2, hq1, hn, encL_all, decide_true, if_true]
   rfl
 | cons b q =>
   have hne : (b :: q == []) = false := rfl
   have hB : ((((b :: q).getD (Int.toNat 0) 0).toNat : Nat) : Int) = (b.toNat : Int) := rfl
   have hB2 : (b.toNat : Int) <= 255 := by have := b.toNat_lt; omega
   have h0p : Int.toNat 0 < (b :: q).length := by simp
   have hlabs := kidsOk_labs hkK
   have e1 : c69_1 (encL ks) (b :: q) = posK ks (b.toNat : Int) := by unfold c69_1; rw [decL_enc, hB]
   have hple := posK_le ks (b.toNat : Int)
   have hput : putN ((b :: q).length + 1) (.node s rs ks) (b :: q) qs = if hitK ks (b.toNat : Int) = true then
       if sharedL (ks.getD (posK ks (b.toNat : Int)) default).lab (b :: q) < (ks.getD (posK ks (b.toNat : Int)) default).lab.length /\ qs = [] then .node s rs ks
       else setN (.node s rs ks) (posK ks (b.toNat : Int)) (joinN (putN (q.length + 1) (downN (ks.getD (posK ks (b.toNat : Int)) default) (b :: q)) ((b :: q).drop (sharedL (ks.getD (posK ks (b.toNat : Int)) default).lab (b :: q))) qs))
     else if qs = [] then .node s rs ks else .node s rs (ks.take (posK ks (b.toNat : Int)) ++ .node (b :: q) qs [] :: ks.drop (posK ks (b.toNat : Int))) := rfl
   rw [hput]
   by_cases c1 : hitK ks (b.toNat : Int) = true
   case neg =>
     rw [if_neg c1]
     rw [Bool.not_eq_true] at c1
     simp only [fd_br, fd_chk', fd_leaf, hne, h0p, hB, hB2, hl1, hl2, hq1, hlabs, e1, c1, encL_length, isL_enc, decL_enc, rows_length, decide_true, if_true, Bool.false_eq_true, if_false, Bool.not_false]
     by_cases c2 : qs = []
     · subst c2
       simp only [List.length_nil, Int.natCast_zero, Int.lt_irrefl, decide_false, Bool.false_eq_true, if_false, if_true, fd_leaf, encL_all]
       rfl
     · have c3 : (0 : Int) < qs.length := by have := List.length_pos_iff.2 c2; omega
       have c4 : ((posK ks (b.toNat : Int) : Nat) : Int) <= ks.length := by omega
       simp only [c2, c3, c4, if_true, if_false, decide_true, hn, fd_chk', fd_leaf, Int.toNat_natCast, wk_new, encL_take, encL_drop]
       rw [<- encL, encL_app, show ks.length + 1 = (ks.take (posK ks (b.toNat : Int)) ++ Nd.node (b :: q) qs [] :: ks.drop (posK ks (b.toNat : Int))).length by simp; omega, encL_all]
       simp only [VT, Nd.lab_node, Nd.rows_node, Nd.kids_node]
   case pos =>
     rw [if_pos c1]
     have c1' := c1
     unfold hitK at c1
     simp only [Bool.and_eq_true, decide_eq_true_eq] at c1
     obtain ⟨c1, c2⟩ := c1
     have hi : 0 + (((posK ks (b.toNat : Int) : Nat) : Int)).toNat = posK ks (b.toNat : Int) := by omega
     have hcut : (b :: q).take (b :: q).length = b :: q := List.take_length
     rw [getD_at' c1] at c2 ⊢
     have hko := hkK.1 _ (List.getElem_mem c1)
     obtain ⟨g1, g2, g9003, g9004, g9005⟩ := okT_iff.1 hko
     have hsp : 0 < sharedL ks[posK ks (b.toNat : Int)].lab (b :: q) := shared_pos g1 (by simp) (by rw [c2, hdB_cons])
     obtain ⟨s1, s2, s9003⟩ := shared_split ks[posK ks (b.toNat : Int)].lab (b :: q)
     have e8 : c69_2 (encL ks) (b :: q) = ks[posK ks (b.toNat : Int)].enc := by unfold c69_2; rw [e1, hi, encL_getD c1, enc_take]
     have e12 : c69_3 (encL ks) (b :: q) = sharedL ks[posK ks (b.toNat : Int)].lab (b :: q) := by unfold c69_3; rw [e8, nd_lab]
     have e6 : c69_4 (encL ks) (b :: q) = splitN ks[posK ks (b.toNat : Int)] (sharedL ks[posK ks (b.toNat : Int)].lab (b :: q)) := by
       unfold c69_4; rw [e8, e12, nd_lab, nd_rows, nd_kids, toRows_rows, decL_enc, Nd.eta, Int.toNat_natCast]
     have e2 : c69_5 (encL ks) (b :: q) = splitN ks[posK ks (b.toNat : Int)] (sharedL ks[posK ks (b.toNat : Int)].lab (b :: q)) := by
       unfold c69_5; rw [e6, toRows_rows, decL_enc, Nd.eta]
     have e3 : c69_6 (encL ks) (b :: q) = (b :: q).drop (sharedL ks[posK ks (b.toNat : Int)].lab (b :: q)) := by unfold c69_6; rw [e12, hcut, Int.toNat_natCast]
     have hdl : ((b :: q).drop (sharedL ks[posK ks (b.toNat : Int)].lab (b :: q))).length < dd := by rw [List.length_drop]; omega
     have hdl2 : ((b :: q).drop (sharedL ks[posK ks (b.toNat : Int)].lab (b :: q))).length <= 24 := by rw [List.length_drop]; omega
     have hdl3 : ((b :: q).drop (sharedL ks[posK ks (b.toNat : Int)].lab (b :: q))).length < q.length + 1 := by rw [List.length_drop, List.length_cons]; omega
     obtain ⟨d1, d2, d3, d4, d5, d6, d7⟩ := downN_ok hko hsp
     have d8 := kidsOk_mono _ _ 24 (by omega) d6
     obtain ⟨r1, r2, r3, _, r5⟩ := putN_ok (((b :: q).drop (sharedL ks[posK ks (b.toNat : Int)].lab (b :: q))).length + 1) _ _ qs 24 (Nat.lt_succ_self _) d8 hdl2 hq d5
     have e10 : sharedL ks[posK ks (b.toNat : Int)].lab (b :: q) < ks[posK ks (b.toNat : Int)].lab.length -> c69_8 (encL ks) (b :: q) (rows qs) = putN (((b :: q).drop (sharedL ks[posK ks (b.toNat : Int)].lab (b :: q))).length + 1) (downN ks[posK ks (b.toNat : Int)] (b :: q)) ((b :: q).drop (sharedL ks[posK ks (b.toNat : Int)].lab (b :: q))) qs := fun h => by
       unfold c69_8; rw [e3, e2, toRows_rows]; unfold downN; rw [if_pos h]
     have e4 : ¬ sharedL ks[posK ks (b.toNat : Int)].lab (b :: q) < ks[posK ks (b.toNat : Int)].lab.length -> c69_7 (encL ks) (b :: q) (rows qs) = putN (((b :: q).drop (sharedL ks[posK ks (b.toNat : Int)].lab (b :: q))).length + 1) (downN ks[posK ks (b.toNat : Int)] (b :: q)) ((b :: q).drop (sharedL ks[posK ks (b.toNat : Int)].lab (b :: q))) qs := fun h => by
       unfold c69_7; rw [e3, e8, nd_lab, nd_rows, nd_kids, toRows_rows, decL_enc, Nd.eta, toRows_rows]; unfold downN; rw [if_neg h]
     rw [putN_fuel (q.length + 1) (((b :: q).drop (sharedL ks[posK ks (b.toNat : Int)].lab (b :: q))).length + 1) _ _ qs hdl3 (Nat.lt_succ_self _) d8 d5 hdl2]
     have hlab9 : ks[posK ks (b.toNat : Int)].lab.length < 9223372036854775807 := by omega
     have hlabu : (putN (((b :: q).drop (sharedL ks[posK ks (b.toNat : Int)].lab (b :: q))).length + 1) (downN ks[posK ks (b.toNat : Int)] (b :: q)) ((b :: q).drop (sharedL ks[posK ks (b.toNat : Int)].lab (b :: q))) qs).lab.length <= 24 := by rw [r1, d4]; omega
     have e5 : sharedL ks[posK ks (b.toNat : Int)].lab (b :: q) < ks[posK ks (b.toNat : Int)].lab.length -> c69_9 (encL ks) (b :: q) (rows qs) = putN (((b :: q).drop (sharedL ks[posK ks (b.toNat : Int)].lab (b :: q))).length + 1) (downN ks[posK ks (b.toNat : Int)] (b :: q)) ((b :: q).drop (sharedL ks[posK ks (b.toNat : Int)].lab (b :: q))) qs := fun h => by
       unfold c69_9; rw [e10 h, toRows_rows, decL_enc, Nd.eta]
     have e11 : ¬ sharedL ks[posK ks (b.toNat : Int)].lab (b :: q) < ks[posK ks (b.toNat : Int)].lab.length -> c69_10 (encL ks) (b :: q) (rows qs) = putN (((b :: q).drop (sharedL ks[posK ks (b.toNat : Int)].lab (b :: q))).length + 1) (downN ks[posK ks (b.toNat : Int)] (b :: q)) ((b :: q).drop (sharedL ks[posK ks (b.toNat : Int)].lab (b :: q))) qs := fun h => by
       unfold c69_10; rw [e4 h, toRows_rows, decL_enc, Nd.eta]
     generalize putN (((b :: q).drop (sharedL ks[posK ks (b.toNat : Int)].lab (b :: q))).length + 1) (downN ks[posK ks (b.toNat : Int)] (b :: q)) ((b :: q).drop (sharedL ks[posK ks (b.toNat : Int)].lab (b :: q))) qs = u at *
     have hku := okL_iff'.2 r3
     have c9 : ((posK ks (b.toNat : Int) : Nat) : Int) < ks.length := by omega
     have w9 : IntKind.wrap .i64 (((posK ks (b.toNat : Int) : Nat) : Int) + 1) = ((posK ks (b.toNat : Int) : Nat) : Int) + 1 := by rw [wrap_same (by omega) (by omega)]
     have hs3 : (ks[posK ks (b.toNat : Int)].lab.length : Int) = ks[posK ks (b.toNat : Int)].lab.length := rfl
     -- how it ends
     have fin : ∀ X : List (List C), X = (encL ks).set (posK ks (b.toNat : Int)) (joinD u).enc -> (if joinB u = true then some (R.out [V.agg [V.c (.str s), V.c (.sl 5 none false (rows rs)), V.c (.sl 3 none false (List.take ks.length X))]] [])
         else some (R.out [V.agg [V.c (.str s), V.c (.sl 5 none false (rows rs)), V.c (.sl 3 none false (List.take (ks.length - 1) (List.take (posK ks (b.toNat : Int)) X ++ List.drop (posK ks (b.toNat : Int) + 1) X)))]] [])) = some (R.out [VT (setN (Nd.node s rs ks) (posK ks (b.toNat : Int)) (joinN u))] []) := by
       rintro X rfl
       rw [encL_set]
       unfold joinB joinD
       cases joinN u with
       | none =>
         simp only [Option.isSome_none, Bool.false_eq_true, if_false, Option.getD_none, setN, VT, Nd.lab_node, Nd.rows_node, Nd.kids_node, encL_take, encL_drop, encL_app]
         rw [List.take_set_of_le (Nat.le_refl _), List.drop_set_of_lt (Nat.lt_succ_self _), List.take_of_length_le (by simp; omega)]
       | some k =>
         simp only [Option.isSome_some, if_true, Option.getD_some, setN, VT, Nd.lab_node, Nd.rows_node, Nd.kids_node]
         rw [encL_take, List.take_of_length_le (by simp)]
     have w3 : ∀ t : Nd, ([C.str t.lab, C.sl 5 none false (rows t.rows), C.sl 3 none false (encL t.kids)]).length = 3 := fun _ => rfl
     simp only [fd_br, fd_chk', fd_leaf, hne, h0p, hB, hB2, hl1, hl2, hq1, hlabs, e1, c1', c1, encL_length, isL_enc, decL_enc, rows_length, decide_true, if_true, Bool.false_eq_true, if_false, Bool.not_true, hi, c9, encL_getD c1, enc_len, Nat.le_refl,
       e8, nd_ok, nd_lab, nd_rows, nd_kids, hlab9, e12, Int.ofNat_lt, Int.ofNat_le, isRows_rows]
     have hN : ((sharedL ks[posK ks (b.toNat : Int)].lab (b :: q) : Nat) : Int).toNat <= (b :: q).length := by omega
     have hN2 : ((sharedL ks[posK ks (b.toNat : Int)].lab (b :: q) : Nat) : Int) <= ks[posK ks (b.toNat : Int)].lab.length := by omega
     have hI : (((posK ks (b.toNat : Int) : Nat) : Int)).toNat = posK ks (b.toNat : Int) := by omega
     have hkk := okL_iff'.2 (kidsOk_mono _ _ 24 (by omega) g9005)
     have hrk : right (toRows (rows ks[posK ks (b.toNat : Int)].rows)) = true := by rw [toRows_rows]; exact g9003
     have hrq : right (toRows (rows qs)) = true := by rw [toRows_rows]; exact hq
     have en : ∀ X : List (List C), (if joinB u = true then some (R.out [V.agg [V.c (.str s), V.c (.sl 5 none false (rows rs)), V.c (.sl 3 none false (List.take ks.length X))]] [])
         else some (R.out [V.agg [V.c (.str s), V.c (.sl 5 none false (rows rs)), V.c (.sl 3 none false (List.take (ks.length - 1) (List.take (posK ks (b.toNat : Int)) X ++ List.drop (posK ks (b.toNat : Int) + 1) X)))]] [])) =
         if (!joinB u) = true then some (R.out [V.agg [V.c (.str s), V.c (.sl 5 none false (rows rs)), V.c (.sl 3 none false (List.take (ks.length - 1) (List.take (posK ks (b.toNat : Int)) X ++ List.drop (posK ks (b.toNat : Int) + 1) X)))]] [])
         else some (R.out [V.agg [V.c (.str s), V.c (.sl 5 none false (rows rs)), V.c (.sl 3 none false (List.take ks.length X))]] []) := fun X => by cases joinB u <;> rfl
     by_cases c3 : sharedL ks[posK ks (b.toNat : Int)].lab (b :: q) < ks[posK ks (b.toNat : Int)].lab.length
     · have e12 : c69_12 (encL ks) (b :: q) (rows qs) = (encL ks).set (posK ks (b.toNat : Int)) (joinD u).enc := by unfold c69_12; rw [e1, hi, e5 c3, enc_mk]
       have hsl : (splitN ks[posK ks (b.toNat : Int)] (sharedL ks[posK ks (b.toNat : Int)].lab (b :: q))).lab.length <= 24 := by simp only [splitN, Nd.lab_node, List.length_take]; omega
       have hdn : downN ks[posK ks (b.toNat : Int)] (b :: q) = splitN ks[posK ks (b.toNat : Int)] (sharedL ks[posK ks (b.toNat : Int)].lab (b :: q)) := by unfold downN; rw [if_pos c3]
       rw [hdn] at d5 d8
       have hsk := okL_iff'.2 d8
       by_cases c4 : qs = []
       · have c5 : ((qs.length : Int) == 0) = true := by simp [c4]
         simp only [c3, c4, c5, and_self, if_true, decide_true, encL_all, List.length_nil]
         rfl
       · have c5 : ((qs.length : Int) == 0) = false := by
           have := List.length_pos_iff.2 c4
           simp; omega
         simp only [c3, c4, c5, and_false, if_true, if_false, decide_true, Bool.false_eq_true, fd_br, fd_chk', fd_leaf, hN, hN2, s2, hkk, hrk, hrq, e6, hsk, hsl, hn, e3, hdl, hdl2, e10 c3, e5 c3, hlabu, hku, e12, w9, hI, isL_enc, isRows_rows, decL_enc, toRows_rows, d5, hq, List.length_set, encL_length]
         rw [<- en]
         exact fin _ rfl
     · have e12 : c69_11 (encL ks) (b :: q) (rows qs) = (encL ks).set (posK ks (b.toNat : Int)) (joinD u).enc := by unfold c69_11; rw [e1, hi, e11 c3, enc_mk]
       simp only [c3, false_and, if_true, if_false, decide_true, decide_false, Bool.false_eq_true, fd_br, fd_chk', fd_leaf, hN, hN2, hkk, hrk, hrq, g2, hn, e3, hdl, hdl2, e4 c3, e11 c3, hlabu, hku, e12, w9, hI, isL_enc, isRows_rows, decL_enc, toRows_rows, g9003, hq, List.length_set, encL_length]
       rw [<- en]
       exact fin _ rfl
theorem s69_ok : ∀ d, CSpecOk E 69 (s69 d)
 | 0 => by
   intro a h cs vals h' he hc
   unfold s69 at he
   split at he <;> simp only [Option.some.injEq, Prod.mk.injEq, reduceCtorEq] at he
   obtain ⟨rfl, rfl, rfl⟩ := he
   simp [allT] at hc
 | d + 1 => by
   intro a h cs vals h' he hc
   unfold s69 at he
   split at he <;> simp only [Option.some.injEq, Prod.mk.injEq, reduceCtorEq] at he
   rename_i s rn rt xs kn kt ys p qn qt zs
   obtain ⟨rfl, rfl, rfl⟩ := he
   simp only [allT, Bool.and_true, Bool.and_eq_true, decide_eq_true_eq] at hc
   obtain ⟨h1, h2, h3, h4, h5, h6, h7, h8, h9, h10⟩ := hc
   obtain ⟨rs, rfl⟩ := rows_ex h1
   obtain ⟨ks, rfl⟩ := isL_ex h2
   obtain ⟨qs, rfl⟩ := rows_ex h3
   simp only [toRows_rows, decL_enc] at *
   exact f69 d (s69_ok d) s rn rt rs kn kt ks p qn qt qs h4 h5 h6 h7 h8 h9 h10
end Go.Proofs.YtgaabjmbnomimaaGreatDoor
namespace Go.Proofs.YtgaabjmbnomimaaGreatDoor
open Go Go.Ev
-- cse
noncomputable abbrev p67 : Par := par E sh (ctOf []) 67 1 0
theorem t67 (p : Bys) : p67.ft ([V.c (C.str p)]) ([]) = (Tr.br (!p == []) (Tr.leaf (R.out [V.c (C.bool (decide ((↑p.length : Int) <= 24)))] [])) (Tr.leaf (R.out [V.c (C.bool false)] []))) := by kernel_rfl
def isPath (p : Bys) : Bool := decide (p ≠ []) && decide (p.length <= 24)
def s67 : CSpec := fun a h => match a, h with
 | [.c (.str p)], [] => some ([], [V.b (isPath p)], [])
 | _, _ => none
noncomputable abbrev p178 : Par := par E sh (ctOf []) 178 1 0
theorem t178 (p : Bys) : p178.ft ([V.c (C.str p)]) ([]) = (Tr.leaf (R.out [V.c (C.bool true)] [])) := by kernel_rfl
def s178 : CSpec := fun a h => match a, h with
 | [.c (.str p)], [] => some ([], [V.b true], [])
 | _, _ => none
noncomputable abbrev p138 : Par := par E sh (ctOf []) 138 3 0
theorem t138 (s : Bys) (rn : OBo) (rt : Bool) (xs : LLC) (kn : OBo) (kt : Bool) (ys : LLC) (q : Bys) : p138.ft ([V.agg [V.c (C.str s), V.c (C.sl 5 rn rt xs), V.c (C.sl 3 kn kt ys)], V.c (C.str q), V.fn 178 []]) ([]) = (Tr.leaf (R.out [V.fn 176 [V.ptr 1 0 0 0, V.ptr 0 0 0 0, V.ptr 2 0 0 0]] [O.box [V.c (C.str s), V.c (C.sl 5 rn rt xs), V.c (C.sl 3 kn kt ys)], O.box [V.c (C.str q)], O.box [V.fn 178 []]])) := by kernel_rfl
variable (dd : Nat)
noncomputable abbrev p24 : Par := par E sh (ctOf [(48, s48), (67, s67), (68, s68), (69, s69 dd)]) 24 3 0
theorem t24 (s : Bys) (rn : OBo) (rt : Bool) (xs : LLC) (kn : OBo) (kt : Bool) (ys : LLC) (p : Bys) (qn : OBo) (qt : Bool) (zs : LLC) : (p24 dd).ft ([V.agg [V.c (C.str s), V.c (C.sl 5 rn rt xs), V.c (C.sl 3 kn kt ys)], V.c (C.str p), V.c (C.sl 5 qn qt zs)]) ([]) = (Tr.chk (isRows xs) (Tr.chk (isL ys) (Tr.br (checkT (Nd.node s (toRows xs) (decL ys)) != 0) (Tr.leaf (R.out [V.agg [V.c (C.str []), V.c (C.sl 5 none false []), V.c (C.sl 3 none false [])], V.c (C.int IntKind.i64 2)] [])) (Tr.br (!isPath p) (Tr.leaf (R.out [V.agg [V.c (C.str []), V.c (C.sl 5 none false []), V.c (C.sl 3 none false [])], V.c (C.int IntKind.i64 2)] [])) (Tr.chk (isRows zs) (Tr.br (checkR (toRows zs) != 0) (Tr.leaf (R.out [V.agg [V.c (C.str []), V.c (C.sl 5 none false []), V.c (C.sl 3 none false [])], V.c (C.int IntKind.i64 2)] [])) (Tr.chk (isRows xs) (Tr.chk (isL ys) (Tr.chk (isRows zs) (Tr.chk (okL (decL ys) 24 (-1)) (Tr.chk (right (toRows xs)) (Tr.chk (right (toRows zs)) (Tr.chk (decide (s.length <= 24)) (Tr.chk (decide (qn ≠ some true \/ zs = [])) (Tr.chk (decide (p.length < dd)) (Tr.chk (decide (p.length <= 24)) (Tr.leaf (R.out [V.agg [V.c (C.str (putN (p.length + 1) (Nd.node s (toRows xs) (decL ys)) p (toRows zs)).lab), V.c (C.sl 5 none false (rows (putN (p.length + 1) (Nd.node s (toRows xs) (decL ys)) p (toRows zs)).rows)), V.c (C.sl 3 none false (encL (putN (p.length + 1) (Nd.node s (toRows xs) (decL ys)) p (toRows zs)).kids))], V.c (C.int IntKind.i64 0)] [])))))))))))))))))) := by kernel_rfl
end Go.Proofs.YtgaabjmbnomimaaGreatDoor
namespace Go.Proofs.YtgaabjmbnomimaaGreatDoor
open Go Go.Ev
theorem f67 (p : Bys) : call E 67 [.c (.str p)] [] = some ([V.b (isPath p)], []) := by
 refine call_of (E := E) (sh := sh) (ct := ctOf []) (na := 1) (m := 0) ctOf_nil rfl rfl rfl rfl rfl rfl ?_
 rw [t67]; unfold isPath
 cases p with
 | nil => rfl
 | cons b q =>
   have h : (b :: q == []) = false := rfl
   simp only [fd_br, fd_leaf, h, Bool.not_false, if_true, ne_eq, reduceCtorEq, not_false_eq_true, decide_true, Bool.true_and]
   have : (decide (((b :: q).length : Int) <= 24)) = decide ((b :: q).length <= 24) := by
     rw [Bool.eq_iff_iff]; simp only [decide_eq_true_eq]; omega
   rw [this]
theorem s67_ok : CSpecOk E 67 s67 := by
 intro a h cs vals h' he hc
 unfold s67 at he
 split at he <;> simp only [Option.some.injEq, Prod.mk.injEq, reduceCtorEq] at he
 obtain ⟨rfl, rfl, rfl⟩ := he
 exact f67 _
theorem f178 (p : Bys) : call E 178 [.c (.str p)] [] = some ([V.b true], []) := by
 refine call_of (E := E) (sh := sh) (ct := ctOf []) (na := 1) (m := 0) ctOf_nil rfl rfl rfl rfl rfl rfl ?_
 rw [t178]; rfl
theorem s178_ok : CSpecOk E 178 s178 := by
 intro a h cs vals h' he hc
 unfold s178 at he
 split at he <;> simp only [Option.some.injEq, Prod.mk.injEq, reduceCtorEq] at he
 obtain ⟨rfl, rfl, rfl⟩ := he
 exact f178 _
def putP (t : Nd) (p : Bys) (rs : List Row) : Nd × Int := if okR t = true /\ isPath p = true /\ right rs = true then (putR t p rs, 0) else (.node [] [] [], 2)
def s24 : CSpec := fun a h => match a, h with
 | [.agg [.c (.str s), .c (.sl 5 rn rt xs), .c (.sl 3 kn kt ys)], .c (.str p), .c (.sl 5 qn qt zs)], [] => some ([isRows xs, isL ys, isRows zs, decide (qn ≠ some true \/ zs = [])], [VT (putP (.node s (toRows xs) (decL ys)) p (toRows zs)).1, V.i (putP (.node s (toRows xs) (decL ys)) p (toRows zs)).2], [])
 | _, _ => none
theorem checkT_ne (t : Nd) : (checkT t != 0) = !okR t := by
 unfold checkT; cases okR t <;> rfl
theorem f24 (s : Bys) (rn : OBo) (rt : Bool) (rs : List Row) (kn : OBo) (kt : Bool) (ks : List Nd) (p : Bys) (qn : OBo) (qt : Bool) (qs : List Row) (hn : qn ≠ some true \/ rows qs = []) :
   call E 24 [.agg [.c (.str s), .c (.sl 5 rn rt (rows rs)), .c (.sl 3 kn kt (encL ks))], .c (.str p), .c (.sl 5 qn qt (rows qs))] [] = some ([VT (putP (.node s rs ks) p qs).1, V.i (putP (.node s rs ks) p qs).2], []) := by
 have hct : (ctOf [(48, s48), (67, s67), (68, s68), (69, s69 (p.length + 1))]).ok E := ctOf_cons s48_ok (ctOf_cons s67_ok (ctOf_cons s68_ok (ctOf_cons (s69_ok _) ctOf_nil)))
 refine call_of (E := E) (sh := sh) (ct := ctOf [(48, s48), (67, s67), (68, s68), (69, s69 (p.length + 1))]) (na := 3) (m := 0) hct rfl rfl rfl rfl rfl rfl ?_
 show (p24 (p.length + 1)).fd ((p24 (p.length + 1)).ft _ _) = _
 rw [t24]
 simp only [nd_ok, nd_lab, nd_rows, nd_kids, encL_length, isL_enc, decL_enc, wrap_hd, hd_pos, ld_br, ld_chk', ld_leaf, fd_br, fd_chk', fd_leaf, decide_true, decide_eq_true_eq, if_true, Int.toNat_natCast, Int.natCast_nonneg, Int.ofNat_lt, Int.ofNat_le, Bool.false_eq_true, if_false, bne_iff_ne, beq_iff_eq, ne_eq, not_true_eq_false, not_false_eq_true, Bool.not_eq_true', decide_eq_false_iff_not, reduceCtorEq, rows_length, er_ok, er_ok', dr_er, isRows_rows, toRows_rows, rows_take, rows_drop, rows_append, ints_length, isInts_ints, toInts_ints, ei_i, ei_ok, mk_headD, ints_take, ints_drop, ints_append, ints_snoc, ints_snoc', List.take_length, Nat.zero_add, Nat.le_refl, er_a, er_b, er_k, er_n, er_s, er_v, checkT_ne, checkR_ne]
 unfold putP
 cases c1 : okR (.node s rs ks) with
 | false => simp [VT, Nd.lab_node, Nd.rows_node, Nd.kids_node, rows, encL]
 | true =>
   have c1' := okR_iff.1 c1
   simp only [Nd.lab_node, Nd.rows_node, Nd.kids_node] at c1'
   obtain ⟨rfl, rfl, hk⟩ := c1'
   cases c2 : isPath p with
   | false => simp [VT, Nd.lab_node, Nd.rows_node, Nd.kids_node, rows, encL]
   | true =>
     cases c3 : right qs with
     | false => simp [VT, Nd.lab_node, Nd.rows_node, Nd.kids_node, rows, encL]
     | true =>
       have hp : p.length <= 24 := by unfold isPath at c2; simp at c2; exact c2.2
       have r0 : right [] = true := rfl
       simp [okL_iff'.2 hk, r0, hp, hn, VT, putR]
theorem s24_ok : CSpecOk E 24 s24 := by
 intro a h cs vals h' he hc
 unfold s24 at he
 split at he <;> simp only [Option.some.injEq, Prod.mk.injEq, reduceCtorEq] at he
 rename_i s rn rt xs kn kt ys p qn qt zs
 obtain ⟨rfl, rfl, rfl⟩ := he
 simp only [allT, Bool.and_true, Bool.and_eq_true, decide_eq_true_eq] at hc
 obtain ⟨h1, h2, h3, h4⟩ := hc
 obtain ⟨rs, rfl⟩ := rows_ex h1
 obtain ⟨ks, rfl⟩ := isL_ex h2
 obtain ⟨qs, rfl⟩ := rows_ex h3
 simp only [toRows_rows, decL_enc]
 exact f24 s rn rt rs kn kt ks p qn qt qs h4
end Go.Proofs.YtgaabjmbnomimaaGreatDoor
namespace Go.Proofs.YtgaabjmbnomimaaGreatDoor
open Go Go.Ev
abbrev Rise (l : List Ent) : Prop := l.Pairwise fun a b => Op.bytesLess a.1 b.1 = true
theorem rise_map (q : Bys) {l : List Ent} (h : Rise l) : Rise (l.map fun e => (q ++ e.1, e.2)) := by
 rw [Rise, List.pairwise_map]
 exact h.imp fun h => by rw [bl_app]; exact h
theorem entL_ne_nil {l : List Nd} {n : Nat} (h : kidsOk l n) : ∀ e ∈ entL l, e.1 ≠ [] := fun _ he => (entL_hd h he).1
theorem rise_own {rs : List Row} {l : List Ent} (h : Rise l) (hn : ∀ e ∈ l, e.1 ≠ []) : Rise (ownB rs ++ l) := by
 unfold ownB
 split
 · exact h
 · rw [List.singleton_append, Rise, List.pairwise_cons]
   refine ⟨fun e he => ?_, h⟩
   obtain ⟨b, q, hb⟩ := head_of_ne (hn e he)
   simp only [hb]; rfl
mutual
theorem entT_rise : ∀ (t : Nd) (n : Nat), okT t n = true -> Rise (entT t)
 | .node s rs ks, n, h => by
   obtain ⟨g1, g2, g9003, g9004, g9005⟩ := okT_iff.1 h
   simp only [Nd.lab_node, Nd.rows_node, Nd.kids_node] at g9005
   rw [entT_B]
   exact rise_map _ (rise_own (entL_rise ks _ g9005) (entL_ne_nil g9005))
theorem entL_rise : ∀ (l : List Nd) (n : Nat), kidsOk l n -> Rise (entL l)
 | [], _, _ => List.Pairwise.nil
 | t :: r, n, h => by
   have hr : kidsOk r n := kidsOk_sub h (List.sublist_cons_self _ _)
   have hT := h.1 t (by simp)
   have hlt : ∀ k ∈ r, hdB t.lab < hdB k.lab := by have := h.2; rw [List.pairwise_cons] at this; exact this.1
   rw [entL, Rise, List.pairwise_append]
   refine ⟨entT_rise t n hT, entL_rise r n hr, fun a ha b hb => ?_⟩
   obtain ⟨s, hs⟩ := entT_pre t a ha
   obtain ⟨hbn, k, hk, hkb⟩ := entL_hd hr hb
   have hne := (okT_iff.1 hT).1
   refine bl_hd (by rw [hs]; simp [hne]) hbn ?_
   rw [hs, hdB_app hne, hkb]; exact hlt k hk
end
theorem entL_right : ∀ (l : List Nd) (n : Nat), kidsOk l n -> ∀ e ∈ entL l, right e.2 = true := by
 have main : ∀ (d : Nat) (l : List Nd) (n : Nat), depL l < d -> kidsOk l n -> ∀ e ∈ entL l, right e.2 = true := by
   intro d
   induction d with
   | zero => intro l n h; omega
   | succ d ih =>
     intro l n hd h e he
     induction l with
     | nil => simp [entL] at he
     | cons t r ih2 =>
       rw [entL] at he
       rcases List.mem_append.1 he with he | he
       · have hT := okT_iff.1 (h.1 t (by simp))
         rw [entT_B] at he
         obtain ⟨x, hx, rfl⟩ := List.mem_map.1 he
         rcases List.mem_append.1 hx with hx | hx
         · unfold ownB at hx
           split at hx
           · simp at hx
           · simp only [List.mem_singleton] at hx; subst hx; exact hT.2.2.1
         · exact ih t.kids _ (by have := depL_kid (l := t :: r) (t := t) (by simp); omega) hT.2.2.2.2 x hx
       · exact ih2 (by rw [depL] at hd; omega) (kidsOk_sub h (List.sublist_cons_self _ _)) he
 exact fun l n h => main (depL l + 1) l n (Nat.lt_succ_self _) h
theorem entR_rise {t : Nd} (h : okR t = true) : Rise (entR t) := entL_rise _ _ (okR_iff.1 h).2.2
theorem isPath_iff {p : List UInt8} : isPath p = true ↔ p ≠ [] /\ p.length <= 24 := by simp [isPath]
end Go.Proofs.YtgaabjmbnomimaaGreatDoor
namespace Go.Proofs.YtgaabjmbnomimaaGreatDoor
open Go Go.Ev Go.Sort
theorem cmpB_neg {x y : List UInt8} : cmpB x y < 0 ↔ Op.bytesLess x y = true := by
 unfold cmpB
 split
 · rename_i h; simp [h]
 · rename_i h
   split <;> simp [h]
theorem swoT : SWO (fun x y : Tg => decide (cmpB x.1 y.1 < 0)) where
 irrefl x := by
   have : ¬ cmpB x.1 x.1 < 0 := by rw [cmpB_neg, bl_irrefl]; simp
   simpa using this
 trans x y z h1 h2 := by
   simp only [decide_eq_true_eq] at *
   rw [cmpB_neg] at *
   exact bl_trans h1 h2
 ntrans x y z h1 h2 := by
   simp only [decide_eq_false_iff_not] at *
   rw [cmpB_neg] at *
   intro h3
   rw [Bool.not_eq_true] at h1 h2
   cases h4 : Op.bytesLess y.1 x.1 with
   | true => rw [bl_trans h4 h3] at h2; cases h2
   | false =>
     have := bl_total _ _ h1 h4
     rw [this, h2] at h3; cases h3
theorem sortT_spec (l : List Tg) (h : l.length < 4611686018427387904) : (sortT l).Perm l /\ (sortT l).Pairwise (fun x y => Op.bytesLess y.1 x.1 = false) := by
 have hs : l.toArray.size = l.length := by simp
 obtain ⟨h1, h2⟩ := pdq_sorts (fun x y : Tg => decide (cmpB x.1 y.1 < 0)) swoT l.toArray 0 l.toArray.size (Lib.bitLen l.toArray.size) true true (Nat.zero_le _) (Nat.le_refl _) (Or.inl rfl)
 rw [hs] at h1 h2
 unfold sortT
 generalize pdq (fun x y : Tg => decide (cmpB x.1 y.1 < 0)) l.toArray 0 l.length (Lib.bitLen l.length) true true = d at h1 h2
 obtain ⟨p1, p2, p9003⟩ := h1
 rw [hs] at p1
 constructor
 · rw [show d.extract 0 l.length = d by rw [<- p1]; simp, show l.toArray.extract 0 l.length = l.toArray by simp] at p9003
   simpa using p9003
 · rw [List.pairwise_iff_getElem]
   intro i j hi hj hij
   have hi' : i < d.size := by simpa using hi
   have hj' : j < d.size := by simpa using hj
   have := h2 i j (Nat.zero_le _) hij (by omega)
   simp only [decide_eq_false_iff_not] at this
   rw [cmpB_neg, Bool.not_eq_true] at this
   rw [getElem!_pos d i hi', getElem!_pos d j hj'] at this
   simpa using this
theorem tagE_len : ∀ (n : Nat) (xs : LLC), (tagE n xs).length = xs.length
 | _, [] => rfl
 | n, x :: r => by simp [tagE, tagE_len]
theorem tagE_get : ∀ (n : Nat) (xs : LLC) (k : Nat) (h : k < xs.length), (tagE n xs)[k]'(by rw [tagE_len]; exact h) = ((xs[k].headD .pnil).st, n + k)
 | n, x :: r, 0, _ => rfl
 | n, x :: r, k + 1, h => by
   have := tagE_get (n + 1) r k (by simpa using h)
   simp only [tagE, List.getElem_cons_succ, this]
   congr 1; omega
theorem tagE_mem {xs : List (List C)} {t : Tg} (h : t ∈ tagE 0 xs) : ∃ h : t.2 < xs.length, t.1 = (xs[t.2].headD .pnil).st := by
 obtain ⟨k, hk, rfl⟩ := List.getElem_of_mem h
 rw [tagE_len] at hk
 rw [tagE_get 0 xs k hk]
 simp only [Nat.zero_add]
 exact ⟨hk, trivial⟩
theorem tagE_map (xs : LLC) : (tagE 0 xs).map (fun t => xs.getD t.2 []) = xs := by
 refine List.ext_getElem (by simp [tagE_len]) fun k h1 h2 => ?_
 rw [List.getElem_map, tagE_get 0 xs k h2]
 simp [List.getD_eq_getElem?_getD, h2]
theorem sortX_perm (xs : LLC) (h : xs.length < 4611686018427387904) : (sortX xs).Perm xs := by
 have := (sortT_spec (tagE 0 xs) (by rw [tagE_len]; exact h)).1.map fun t => xs.getD t.2 []
 rw [tagE_map] at this
 exact this
theorem sortX_len (xs : LLC) (h : xs.length < 4611686018427387904) : (sortX xs).length = xs.length := (sortX_perm xs h).length_eq
end Go.Proofs.YtgaabjmbnomimaaGreatDoor
namespace Go.Proofs
open Go.Shelf
def Tryz.lays197_ren : Go.Shelf.Ren := ⟨fun | 197 => 221 | 260 => 222 | n => n, fun | 9 => 9 | 21 => 21 | 3 => 3 | 4 => 4 | 5 => 5 | 105 => 247 | 119 => 249 | 0 => 0 | 46 => 203 | 139 => 252 | 138 => 251 | n => n, fun | 3 => 1 | 4 => 2 | n => n⟩
theorem Tryz.lays197 : Go.Proofs.Lays.n197 Tryz.prog Tryz.lays197_ren := {
 mixed := by kernel_rfl
 f197 := Tryz.func221.trans (congrArg some (by kernel_rfl))
 f260 := Tryz.func222.trans (congrArg some (by kernel_rfl))
 t0 := Tryz.underlying0
 a0 := Tryz.isAgg0
 z0 := Tryz.sizeOf0
 v0 := Tryz.zeroValue0
 t3 := Tryz.underlying3
 a3 := Tryz.isAgg3
 z3 := Tryz.sizeOf3
 v3 := Tryz.zeroValue3
 t4 := Tryz.underlying4
 a4 := Tryz.isAgg4
 z4 := Tryz.sizeOf4
 v4 := Tryz.zeroValue4
 t5 := Tryz.underlying5
 a5 := Tryz.isAgg5
 z5 := Tryz.sizeOf5
 v5 := Tryz.zeroValue5
 t9 := Tryz.underlying9
 a9 := Tryz.isAgg9
 z9 := Tryz.sizeOf9
 v9 := Tryz.zeroValue9
 t21 := Tryz.underlying21
 a21 := Tryz.isAgg21
 z21 := Tryz.sizeOf21
 v21 := Tryz.zeroValue21
 t46 := Tryz.underlying203
 a46 := Tryz.isAgg203
 z46 := Tryz.sizeOf203
 v46 := Tryz.zeroValue203
 t105 := Tryz.underlying247
 a105 := Tryz.isAgg247
 z105 := Tryz.sizeOf247
 v105 := Tryz.zeroValue247
 t119 := Tryz.underlying249
 a119 := Tryz.isAgg249
 z119 := Tryz.sizeOf249
 t138 := Tryz.underlying251
 a138 := Tryz.isAgg251
 z138 := Tryz.sizeOf251
 v138 := Tryz.zeroValue251
 t139 := Tryz.underlying252
 a139 := Tryz.isAgg252
 z139 := Tryz.sizeOf252
 v139 := Tryz.zeroValue252
 g3 := by kernel_rfl
 g4 := by kernel_rfl }
def Tryz.lays106_ren : Go.Shelf.Ren := ⟨fun | 106 => 122 | 213 => 169 | 265 => 197 | n => n, fun | 9 => 9 | 3 => 3 | n => n, fun | n => n⟩
theorem Tryz.lays106 : Go.Proofs.Lays.n106 Tryz.prog Tryz.lays106_ren := {
 mixed := by kernel_rfl
 f106 := Tryz.func122.trans (congrArg some (by kernel_rfl))
 f213 := Tryz.func169.trans (congrArg some (by kernel_rfl))
 f265 := Tryz.func197.trans (congrArg some (by kernel_rfl))
 t3 := Tryz.underlying3
 a3 := Tryz.isAgg3
 z3 := Tryz.sizeOf3
 v3 := Tryz.zeroValue3
 t9 := Tryz.underlying9
 a9 := Tryz.isAgg9
 z9 := Tryz.sizeOf9
 v9 := Tryz.zeroValue9 }
def Tryz.sortE_ren : Go.Shelf.Ren := ⟨fun | 6 => 120 | 15 => 168 | 14 => 167 | 28 => 195 | 29 => 196 | 20 => 187 | 21 => 188 | 22 => 189 | 23 => 190 | 24 => 191 | 25 => 192 | 26 => 193 | 27 => 194 | 46 => 211 | 47 => 212 | 48 => 213 | 49 => 214 | 50 => 215 | 57 => 220 | n => n, fun | 22 => 59 | 24 => 112 | 25 => 165 | 3 => 3 | 39 => 203 | 0 => 0 | 53 => 223 | 55 => 225 | 4 => 4 | 46 => 217 | 45 => 216 | 50 => 120 | 5 => 5 | 9 => 9 | 66 => 233 | 70 => 237 | 76 => 245 | 77 => 77 | n => n, fun | n => n⟩
theorem Tryz.sortE : Go.Proofs.SlLaysF0.n6 Tryz.prog Tryz.sortE_ren := {
 mixed := by kernel_rfl
 f6 := ⟨Tryz.f120.name, by decide, Tryz.func120.trans (congrArg some (by kernel_rfl))⟩
 f14 := ⟨Tryz.f167.name, by decide, Tryz.func167.trans (congrArg some (by kernel_rfl))⟩
 f15 := Tryz.func168.trans (congrArg some (by kernel_rfl))
 f20 := ⟨Tryz.f187.name, by decide, Tryz.func187.trans (congrArg some (by kernel_rfl))⟩
 f21 := ⟨Tryz.f188.name, by decide, Tryz.func188.trans (congrArg some (by kernel_rfl))⟩
 f22 := ⟨Tryz.f189.name, by decide, Tryz.func189.trans (congrArg some (by kernel_rfl))⟩
 f23 := ⟨Tryz.f190.name, by decide, Tryz.func190.trans (congrArg some (by kernel_rfl))⟩
 f24 := ⟨Tryz.f191.name, by decide, Tryz.func191.trans (congrArg some (by kernel_rfl))⟩
 f25 := ⟨Tryz.f192.name, by decide, Tryz.func192.trans (congrArg some (by kernel_rfl))⟩
 f26 := ⟨Tryz.f193.name, by decide, Tryz.func193.trans (congrArg some (by kernel_rfl))⟩
 f27 := ⟨Tryz.f194.name, by decide, Tryz.func194.trans (congrArg some (by kernel_rfl))⟩
 f28 := Tryz.func195.trans (congrArg some (by kernel_rfl))
 f29 := Tryz.func196.trans (congrArg some (by kernel_rfl))
 f46 := ⟨Tryz.f211.name, by decide, Tryz.func211.trans (congrArg some (by kernel_rfl))⟩
 f47 := Tryz.func212.trans (congrArg some (by kernel_rfl))
 f48 := Tryz.func213.trans (congrArg some (by kernel_rfl))
 f49 := ⟨Tryz.f214.name, by decide, Tryz.func214.trans (congrArg some (by kernel_rfl))⟩
 f50 := ⟨Tryz.f215.name, by decide, Tryz.func215.trans (congrArg some (by kernel_rfl))⟩
 f57 := ⟨Tryz.f220.name, by decide, Tryz.func220.trans (congrArg some (by kernel_rfl))⟩
 t0 := Tryz.underlying0
 a0 := Tryz.isAgg0
 z0 := Tryz.sizeOf0
 v0 := Tryz.zeroValue0
 t3 := Tryz.underlying3
 a3 := Tryz.isAgg3
 z3 := Tryz.sizeOf3
 v3 := Tryz.zeroValue3
 t4 := Tryz.underlying4
 a4 := Tryz.isAgg4
 z4 := Tryz.sizeOf4
 v4 := Tryz.zeroValue4
 t5 := Tryz.underlying5
 a5 := Tryz.isAgg5
 z5 := Tryz.sizeOf5
 v5 := Tryz.zeroValue5
 t9 := Tryz.underlying9
 a9 := Tryz.isAgg9
 z9 := Tryz.sizeOf9
 v9 := Tryz.zeroValue9
 t22 := Tryz.underlying59
 a22 := Tryz.isAgg59
 z22 := Tryz.sizeOf59
 v22 := Tryz.zeroValue59
 t25 := Tryz.underlying165
 a25 := Tryz.isAgg165
 z25 := Tryz.sizeOf165
 v25 := Tryz.zeroValue165
 t39 := Tryz.underlying203
 a39 := Tryz.isAgg203
 z39 := Tryz.sizeOf203
 v39 := Tryz.zeroValue203
 t45 := Tryz.underlying216
 a45 := Tryz.isAgg216
 z45 := Tryz.sizeOf216
 v45 := Tryz.zeroValue216
 t46 := Tryz.underlying217
 a46 := Tryz.isAgg217
 z46 := Tryz.sizeOf217
 v46 := Tryz.zeroValue217
 t50 := Tryz.underlying120
 a50 := Tryz.isAgg120
 z50 := Tryz.sizeOf120
 v50 := Tryz.zeroValue120
 t53 := Tryz.underlying223
 a53 := Tryz.isAgg223
 z53 := Tryz.sizeOf223
 v53 := Tryz.zeroValue223
 t55 := Tryz.underlying225
 a55 := Tryz.isAgg225
 z55 := Tryz.sizeOf225
 v55 := Tryz.zeroValue225
 t66 := Tryz.underlying233
 a66 := Tryz.isAgg233
 z66 := Tryz.sizeOf233
 v66 := Tryz.zeroValue233
 t70 := Tryz.underlying237
 a70 := Tryz.isAgg237
 z70 := Tryz.sizeOf237
 v70 := Tryz.zeroValue237
 t76 := Tryz.underlying245
 a76 := Tryz.isAgg245
 z76 := Tryz.sizeOf245
 v76 := Tryz.zeroValue245
 t77 := Tryz.underlying77
 a77 := Tryz.isAgg77
 z77 := Tryz.sizeOf77
 v77 := Tryz.zeroValue77 }
end Go.Proofs
namespace Go.Proofs.YtgaabjmbnomimaaGreatDoor
open Go Go.RowKit
theorem inc_walk (b : Nat) (v : Int) (x y : Value) (w : World) (hb : w.heap[b]? = some (.cells #[.int .i64 v] 3 (0, 0))) :
   Calls Tryz.prog 199 #[x, y, .pointer (some ⟨b, 0, none⟩)] w fun e w' => e = .returned (.tuple #[]) /\ w' = w.setCell ⟨b, 0, none⟩ (.int .i64 (wrap64 (v + 1))) := by
 have h1 : w.cell? ⟨b, 0, none⟩ = some (.int .i64 v) := by simp [World.cell?, hb]
 have h2 : w.frozen? ⟨b, 0, none⟩ = false := by simp [World.frozen?, hb]
 go_enter Tryz.func199, Tryz.ntmps199
 go_wp2
 go_end0
 exact ⟨rfl, rfl⟩
structure Nx (w w' : World) (b : Nat) (v : Int) : Prop where
 os : w'.os = w.os
 tape : w'.tape = w.tape
 output : w'.output = w.output
 size : w.heap.size <= w'.heap.size
 keep : ∀ c, c < w.heap.size -> c ≠ b -> w'.heap[c]? = w.heap[c]?
 box : w'.heap[b]? = some (.cells #[.int .i64 v] 3 (0, 0))
theorem Nx.below {w w1 w2 : World} {b : Nat} {v : Int} (h : Nx w w1 b v) (hb : b < w.heap.size) (k : Below w1.heap.size w1 w2) : Nx w w2 b v :=
 ⟨k.os.trans h.os, k.tape.trans h.tape, k.output.trans h.output, Nat.le_trans h.size k.size, fun c hc hne => (k.block c (Nat.lt_of_lt_of_le hc h.size)).trans (h.keep c hc hne), (k.block b (Nat.lt_of_lt_of_le hb h.size)).trans h.box⟩
theorem setCell_box {w : World} {b : Nat} {x : Value} {t : TypeId} (h : w.heap[b]? = some (.cells #[x] t (0, 0))) (y : Value) : (w.setCell ⟨b, 0, none⟩ y).heap[b]? = some (.cells #[y] t (0, 0)) /\ (∀ c, c ≠ b -> (w.setCell ⟨b, 0, none⟩ y).heap[c]? = w.heap[c]?) /\ (w.setCell ⟨b, 0, none⟩ y).heap.size = w.heap.size := by
 have hlt : b < w.heap.size := (Array.getElem?_eq_some_iff.1 h).1
 refine ⟨?_, fun c hc => ?_, ?_⟩
 · simp [World.setCell, Array.getElem?_modify, h]
 · simp [World.setCell, Array.getElem?_modify, Ne.symm hc]
 · simp [World.setCell]
theorem Nx.set {w w1 : World} {b : Nat} {v : Int} (h : Nx w w1 b v) (u : Int) : Nx w (w1.setCell ⟨b, 0, none⟩ (.int .i64 u)) b u := by
 obtain ⟨h1, h2, h3⟩ := setCell_box h.box (.int .i64 u)
 exact ⟨h.os, h.tape, h.output, by rw [h3]; exact h.size, fun c hc hne => (h2 c hne).trans (h.keep c hc hne), h1⟩
theorem each_walk (s : ByteArray) (w : World) (b : Nat) (v : Int) (hb : w.heap[b]? = some (.cells #[.int .i64 v] 3 (0, 0))) (h2 : 3 <= b) (hv : 0 <= v) (hvs : v + s.size < 9223372036854775808) (hT : Lib.Utf8Tabs 1 2 w) (R : Option Nat) (hR : runesN s s.size 0 = R) :
   Calls Tryz.prog 217 #[.string s, .func (.func 199) #[] #[.pointer (some ⟨b, 0, none⟩)]] w fun e w' => ∃ v', Nx w w' b v' /\ match R with
     | some n => e = .returned (.tuple #[]) /\ v' = v + n
     | none => ∃ x, e = .panicked [{ v := .iface 240 x, recovered := false }] := by
 have hbl : b < w.heap.size := (Array.getElem?_eq_some_iff.1 hb).1
 have hnx0 : Nx w w b v := ⟨rfl, rfl, rfl, Nat.le_refl _, fun _ _ _ => rfl, hb⟩
 go_enter Tryz.func217, Tryz.ntmps217
 go_wp2
 go_loopw [] (fun wr => ∃ (pos fuel cnt : Nat), wr.heap[w.heap.size]? = some (.stringIter s pos) /\ Nx w wr b (v + cnt) /\ Hid (R = (runesN s fuel pos).map (· + cnt)) /\ s.size <= pos + fuel /\ cnt <= pos /\ cnt <= s.size) (fun wr => s.size - wr.iterPos w.heap.size)
 case atStart =>
   refine ⟨0, s.size, 0, World.iter_heap w s 0, ?_, ?_, by omega, by omega, by omega⟩
   · have := hnx0.below hbl ((Below.refl _ _).alloc (Nat.le_refl _) (.stringIter s 0))
     simpa [World.iter] using this
   · show R = _
     rw [hR]; cases R <;> simp
 case round =>
   obtain ⟨pos, fuel, cnt, hit, hnx, HS, hf, hc1, hc2⟩ := hrel
   have hpos0 := iterPos_of hit
   obtain ⟨c, hc⟩ : ∃ c, (Utf8.decode s pos).1 = c := ⟨_, rfl⟩
   obtain ⟨wd, hwd⟩ : ∃ wd, (Utf8.decode s pos).2 = wd := ⟨_, rfl⟩
   by_cases hp : pos < s.size
   · have hnext : ∀ ty, (Instr.next (.pointer (some ⟨w.heap.size, 0, none⟩)) true ty).run Tryz.prog wr = _ := fun ty => Lib.run_next_any_at wr w.heap.size s pos ty hit hp
     rw [hc, hwd] at hnext
     have hwd1 : 1 <= wd := by rw [<- hwd]; exact width_pos s pos
     obtain ⟨W1, hW1⟩ : ∃ W1, W1 = wr.iterAt w.heap.size s (pos + wd) := ⟨_, rfl⟩
     rw [<- hW1] at hnext
     have hit2 : W1.heap[w.heap.size]? = some (.stringIter s (pos + wd)) := by rw [hW1]; exact Lib.iterAt_heap wr _ s pos _ hit
     have hnx1 : Nx w W1 b (v + cnt) := by
       subst hW1
       exact ⟨hnx.os, hnx.tape, hnx.output, by rw [Lib.iterAt_size]; exact hnx.size, fun c hc hne => (Lib.iterAt_other wr _ c s _ (by omega)).trans (hnx.keep c hc hne), (Lib.iterAt_other wr _ b s _ (by omega)).trans hnx.box⟩
     have hbox1 := hnx1.box
     clear hW1 hit hnx
     have hinc := inc_walk b (v + cnt) (.int .i64 pos) (.int .i32 c) W1 hbox1
     by_cases hbad : c = 65533
     · subst hbad
       have hext : (s.extract pos s.size).data.toList = s.data.toList.drop pos := by
         simp only [ByteArray.data_extract, Array.toList_extract, List.extract_eq_drop_take]
         exact List.take_of_length_le (by simp)
       have hgo : Lib.decodeGo (s.extract pos s.size) = (65533, wd) := by
         have h1 : (s.extract pos s.size).size ≠ 0 := by simp; omega
         unfold Lib.decodeGo
         rw [if_neg h1, <- Lib.decodeL_drop, List.drop_zero, hext, Lib.decodeL_drop, <- hc, <- hwd]
       have hT1 : Lib.Utf8Tabs 1 2 W1 := by
         have k0 : W1.heap[1]? = w.heap[1]? := hnx1.keep 1 (by omega) (by omega)
         have k1 : W1.heap[2]? = w.heap[2]? := hnx1.keep 2 (by omega) (by omega)
         refine ⟨fun c hc => ?_, fun i hi => ⟨?_, ?_⟩⟩
         · have := hT.1 c hc
           simp only [World.cell?, k0] at this ⊢; exact this
         · have := (hT.2 i hi).1
           simp only [World.cell?, k1] at this ⊢; exact this
         · have := (hT.2 i hi).2
           simp only [World.cell?, k1] at this ⊢; exact this
       have cD := Any.utf8_DecodeRuneInString Tryz.lays197 (s.extract pos s.size) W1 hT1
       rw [hgo] at cD
       go_wp2_with (fail)
       refine Calls.mono cD ?_
       rintro e w2 ⟨rfl, hbw⟩
       simp only []
       go_at_K
       have hnx2 := hnx1.below hbl hbw
       obtain ⟨f, rfl⟩ : ∃ f, fuel = f + 1 := ⟨fuel - 1, by omega⟩
       by_cases hw2 : wd < 2
       · have e : R = none := by
           have := HS.out
           rw [this, runesN_step hc hwd hp, if_pos ⟨rfl, hw2⟩]; rfl
         subst e
         have hw2' : (wd : Int) < 2 := by omega
         go_wp2
         exact ⟨rfl, ⟨_, hnx2⟩, _, rfl⟩
       · have hit3 : w2.heap[w.heap.size]? = some (.stringIter s (pos + wd)) := (hbw.block _ (Array.getElem?_eq_some_iff.1 hit2).1).trans hit2
         have hinc := inc_walk b (v + cnt) (.int .i64 pos) (.int .i32 65533) w2 hnx2.box
         have hw2' : ¬ (wd : Int) < 2 := by omega
         go_wp2_with (fail)
         refine hinc.mono ?_
         rintro e w' ⟨rfl, rfl⟩
         simp only []
         go_at_K
         try go_wp2
         obtain ⟨g1, g2, g18003⟩ := setCell_box hnx2.box (.int .i64 (wrap64 (v + cnt + 1)))
         have hit4 := (g2 w.heap.size (by omega)).trans hit3
         have hw64 : wrap64 (v + cnt + 1) = v + ((cnt + 1 : Nat) : Int) := by (have : wrap64 (v + cnt + 1) = v + cnt + 1 := by unfold wrap64; omega); rw [this]; push_cast; omega
         refine ⟨⟨pos + wd, f, cnt + 1, hit4, by rw [hw64]; exact hnx2.set _, ?_, by omega, by omega, by omega⟩, ?_⟩
         · have := HS.out
           show R = _
           rw [this, runesN_step hc hwd hp, if_neg (by omega)]
           cases runesN s f (pos + wd) <;> simp; omega
         · rw [iterPos_of hit4, hpos0]; omega
     · have hbad' : ((c : Int) == 65533) = false := by simp; omega
       go_wp2_with (fail)
       refine hinc.mono ?_
       rintro e w' ⟨rfl, rfl⟩
       simp only []
       go_at_K
       try go_wp2
       obtain ⟨g1, g2, g18003⟩ := setCell_box hbox1 (.int .i64 (wrap64 (v + cnt + 1)))
       have hit3 := (g2 w.heap.size (by omega)).trans hit2
       have hw64 : wrap64 (v + cnt + 1) = v + ((cnt + 1 : Nat) : Int) := by (have : wrap64 (v + cnt + 1) = v + cnt + 1 := by unfold wrap64; omega); rw [this]; push_cast; omega
       refine ⟨⟨pos + wd, fuel - 1, cnt + 1, hit3, by rw [hw64]; exact hnx1.set _, ?_, by omega, by omega, by omega⟩, ?_⟩
       · have := HS.out
         show R = _
         rw [this]
         obtain ⟨f, rfl⟩ : ∃ f, fuel = f + 1 := ⟨fuel - 1, by omega⟩
         rw [runesN_step hc hwd hp, if_neg (by omega), Nat.add_sub_cancel]
         cases runesN s f (pos + wd) <;> simp; omega
       · rw [iterPos_of hit3, hpos0]; omega
   · have hnext : ∀ ty, (Instr.next (.pointer (some ⟨w.heap.size, 0, none⟩)) true ty).run Tryz.prog wr = _ := fun ty => Lib.run_next_end_at wr w.heap.size s pos ty hit hp
     have e : R = some cnt := by
       have := HS.out
       rw [this, runesN_end s hp]; simp
     subst e
     go_wp2
     go_end0
     exact ⟨hnx, rfl⟩
theorem catch_panicking (b : Nat) (x : Value) (u : Value) (older : List PanicEntry) (w : World) (hb : w.heap[b]? = some (.cells #[.bool false] 4 (0, 0))) :
   CallsD Tryz.prog 216 #[.pointer (some ⟨b, 0, none⟩)] (.panicking ({ v := .iface 240 u, recovered := false } :: older)) w fun e u' w' =>
     e = .returned (.tuple #[]) /\ u' = .panicking ({ v := .iface 240 u, recovered := true } :: older) /\ w' = (w.setCell ⟨b, 0, none⟩ (.bool true)).setCell ⟨b, 0, none⟩ (.bool false) := by
 have h1 : w.cell? ⟨b, 0, none⟩ = some (.bool false) := by simp [World.cell?, hb]
 have h2 : w.frozen? ⟨b, 0, none⟩ = false := by simp [World.frozen?, hb]
 refine callsD_of_wpS Tryz.func216 rfl fun c₀ cs hu => ?_
 apply wpS_seq
 apply wpS_region
 simp [wpOpsS, go_sem, recoverD, hu, Tryz.ntmps216, Exit.thenS]
 apply wpS_seq
 apply wpS_region
 simp [wpOpsS, go_sem, Exit.thenS]
 refine wpS_cond (t := true) (by simp [Act.eval, Array.replicate]) ?_
 simp only [if_true]
 apply wpS_seq
 apply wpS_region
 have h88 := Tryz.underlying240
 have hta : ∀ (w : World), (Instr.typeAssert (.iface 240 u) 20 240 true).run Tryz.prog w = .ok (.tuple #[u, .bool true]) w := fun w => by
   simp [Instr.typeAssert, Sem.run_bind, run_underlying h88, Result.andThen, Sem.run_pure]
 simp [wpOpsS, go_sem, hta, h1, h2, Exit.thenS]
 apply wpS_region
 simp [wpOpsS, go_sem, h1, h2, bodyPostS, results, Tryz.results216]
theorem catch_idle (b : Nat) (w : World) :
   CallsD Tryz.prog 216 #[.pointer (some ⟨b, 0, none⟩)] .returning w fun e u' w' => e = .returned (.tuple #[]) /\ u' = .returning /\ w' = w := by
 have hnn : ∀ w, (binOp .neq 20 .nilIface .nilIface).run Tryz.prog w = .ok (.bool false) w := fun w => Lib.run_neq_nil_nil w Tryz.underlying20
 refine callsD_of_wpS Tryz.func216 rfl fun c₀ cs hu => ?_
 apply wpS_seq
 apply wpS_region
 simp [wpOpsS, go_sem, recoverD, hu, Tryz.ntmps216, Exit.thenS]
 apply wpS_seq
 apply wpS_region
 simp [wpOpsS, go_sem, hnn, Exit.thenS]
 refine wpS_cond (t := false) (by simp [Act.eval, Array.replicate]) ?_
 simp only [Bool.false_eq_true, if_false]
 refine wpS_of_wp (wp_skip ?_)
 cases c₀
 simp_all [bodyPostS, results, Tryz.results216]
theorem Utf8Tabs.alloc {w : World} (hT : Lib.Utf8Tabs 1 2 w) (h : 3 <= w.heap.size) (o : Obj) : Lib.Utf8Tabs 1 2 (w.alloc o) := by
 have hb : Below w.heap.size w (w.alloc o) := (Below.refl _ _).alloc (Nat.le_refl _) o
 have k0 := hb.block 1 (by omega)
 have k1 := hb.block 2 (by omega)
 refine ⟨fun c hc => ?_, fun i hi => ⟨?_, ?_⟩⟩
 · have := hT.1 c hc
   simp only [World.cell?, k0] at this ⊢; exact this
 · have := (hT.2 i hi).1
   simp only [World.cell?, k1] at this ⊢; exact this
 · have := (hT.2 i hi).2
   simp only [World.cell?, k1] at this ⊢; exact this
theorem through_walk (s : ByteArray) (w : World) (b : Nat) (v : Int) (hb : w.heap[b]? = some (.cells #[.int .i64 v] 3 (0, 0))) (h2 : 3 <= b) (hv : 0 <= v) (hvs : v + s.size < 9223372036854775808) (hT : Lib.Utf8Tabs 1 2 w) (R : Option Nat) (hR : runesN s s.size 0 = R) :
   Calls Tryz.prog 198 #[.string s, .func (.func 199) #[] #[.pointer (some ⟨b, 0, none⟩)]] w fun e w' => ∃ v', Nx w w' b v' /\ e = .returned (.bool R.isSome) /\ ∀ n, R = some n -> v' = v + n := by
 have hbl : b < w.heap.size := (Array.getElem?_eq_some_iff.1 hb).1
 obtain ⟨W1, hW1⟩ : ∃ W1, W1 = w.alloc (.cells #[.bool false] 4 (0, 0)) := ⟨_, rfl⟩
 have hbelow : Below w.heap.size w W1 := by rw [hW1]; exact (Below.refl _ _).alloc (Nat.le_refl _) _
 have hb1 : W1.heap[b]? = some (.cells #[.int .i64 v] 3 (0, 0)) := (hbelow.block b hbl).trans hb
 have hT1 : Lib.Utf8Tabs 1 2 W1 := by rw [hW1]; exact Utf8Tabs.alloc hT (by omega) _
 have hok : W1.heap[w.heap.size]? = some (.cells #[.bool false] 4 (0, 0)) := by rw [hW1]; exact World.alloc_heap_new w _
 have hsz1 : w.heap.size < W1.heap.size := (Array.getElem?_eq_some_iff.1 hok).1
 have hE := each_walk s W1 b v hb1 h2 hv hvs hT1 R hR
 have hmf : ∀ (fn : Fn) (first cap : Array Value) (w : World), (Instr.makeFunc fn first cap).run Tryz.prog w = .ok (.func fn first cap) w := fun _ _ _ _ => rfl
 go_enter_defers Tryz.func198, Tryz.ntmps198
 go_wp2_with (fail)
 rw [hW1] at hE
 refine hE.mono ?_
 rintro e w2 ⟨v', hn, he⟩
 have hok2 : w2.heap[w.heap.size]? = some (.cells #[.bool false] 4 (0, 0)) := (hn.keep _ (hW1 ▸ hsz1) (by omega)).trans (hW1 ▸ hok)
 have hnx : Nx w w2 b v' := by
   subst hW1
   exact ⟨hn.os, hn.tape, hn.output, Nat.le_trans hbelow.size hn.size, fun c hc hne => (hn.keep c (Nat.lt_of_lt_of_le hc hbelow.size) hne).trans (hbelow.block c hc), hn.box⟩
 have hset : ∀ (w3 : World) (y : Value), Nx w w3 b v' -> w3.heap[w.heap.size]? = some (.cells #[y] 4 (0, 0)) -> ∀ z, Nx w (w3.setCell ⟨w.heap.size, 0, none⟩ z) b v' /\ (w3.setCell ⟨w.heap.size, 0, none⟩ z).heap[w.heap.size]? = some (.cells #[z] 4 (0, 0)) := by
   intro w3 y h3 h4 z
   obtain ⟨g1, g2, g18003⟩ := setCell_box h4 z
   exact ⟨⟨h3.os, h3.tape, h3.output, by rw [g18003]; exact h3.size, fun c hc hne => (g2 c (by omega)).trans (h3.keep c hc hne), (g2 b (by omega)).trans h3.box⟩, g1⟩
 cases R with
 | none =>
   obtain ⟨x, rfl⟩ := he
   simp only []
   refine leaves_cons (f := 216) (args := #[.pointer (some ⟨w.heap.size, 0, none⟩)]) (by simp) (by simp [go_sem]) ?_
   refine (catch_panicking w.heap.size x x [] _ hok2).mono ?_
   rintro e u' w'' ⟨rfl, rfl, rfl⟩
   obtain ⟨n1, b1⟩ := hset w2 _ hnx hok2 (.bool true)
   obtain ⟨n2, b2⟩ := hset _ _ n1 b1 (.bool false)
   have c2 : ((w2.setCell ⟨w.heap.size, 0, none⟩ (.bool true)).setCell ⟨w.heap.size, 0, none⟩ (.bool false)).cell? ⟨w.heap.size, 0, none⟩ = some (.bool false) := by simp [World.cell?, b2]
   simp [Leaves, settle, results, Tryz.results198, go_sem, c2]
   exact ⟨v', n2⟩
 | some n =>
   obtain ⟨rfl, rfl⟩ := he
   simp only []
   rename_i hk1 hk2
   have c1 : w2.cell? ⟨w.heap.size, 0, none⟩ = some (.bool false) := by simp [World.cell?, hok2]
   have f1 : w2.frozen? ⟨w.heap.size, 0, none⟩ = false := by simp [World.frozen?, hok2]
   obtain ⟨n1, b1⟩ := hset w2 _ hnx hok2 (.bool true)
   have c2 : (w2.setCell ⟨w.heap.size, 0, none⟩ (.bool true)).cell? ⟨w.heap.size, 0, none⟩ = some (.bool true) := by simp [World.cell?, b1]
   apply hk2
   go_wp2
   refine leaves_cons (f := 216) (args := #[.pointer (some ⟨w.heap.size, 0, none⟩)]) (by simp) (by simp [go_sem]) ?_
   refine (catch_idle w.heap.size _).mono ?_
   rintro e u' w'' ⟨rfl, rfl, rfl⟩
   simp [Leaves, settle, results, Tryz.results198, go_sem, c2]
   exact n1
set_option maxRecDepth 100000 in
theorem runes_walk (s : ByteArray) (w : World) (h2 : 3 <= w.heap.size) (hvs : s.size < 9223372036854775808) (hT : Lib.Utf8Tabs 1 2 w) (R : Option Nat) (hR : runesN s s.size 0 = R) :
   Calls Tryz.prog 170 #[.string s] w fun e w' => e = .returned (.int .i64 (runesI R)) /\ Below w.heap.size w w' := by
 have hok : (w.alloc (.cells #[.int .i64 0] 3 (0, 0))).heap[w.heap.size]? = some (.cells #[.int .i64 0] 3 (0, 0)) := World.alloc_heap_new w _
 have hbelow : Below w.heap.size w (w.alloc (.cells #[.int .i64 0] 3 (0, 0))) := (Below.refl _ _).alloc (Nat.le_refl _) _
 have hE := through_walk s _ w.heap.size 0 hok h2 (by omega) (by omega) (Utf8Tabs.alloc hT h2 _) R hR
 have hset := (setCell_box hok (.int .i64 0)).1
 have hmf : ∀ (fn : Fn) (first cap : Array Value) (w : World), (Instr.makeFunc fn first cap).run Tryz.prog w = .ok (.func fn first cap) w := fun _ _ _ _ => rfl
 go_enter Tryz.func170, Tryz.ntmps170
 go_wp2_with (fail)
 refine hE.mono ?_
 rintro e w2 ⟨v', hn, rfl, hv⟩
 have hbel : Below w.heap.size w w2 := ⟨hn.os, hn.tape, hn.output, Nat.le_trans hbelow.size hn.size, fun c hc => (hn.keep c (Nat.lt_of_lt_of_le hc hbelow.size) (by omega)).trans (hbelow.block c hc)⟩
 have c1 : w2.cell? ⟨w.heap.size, 0, none⟩ = some (.int .i64 v') := by simp [World.cell?, hn.box]
 rename_i hk1 hk2
 cases R with
 | none =>
   simp only [Option.isSome_none]
   clear hE hn hT hok hbelow hset hv
   apply hk2
   go_wp2
   try go_wp2
   first | (go_ret; exact ⟨rfl, hbel⟩) | (go_ret2; exact ⟨rfl, hbel⟩) | (go_end0; exact ⟨rfl, hbel⟩) | (simp [bodyPost, results, Tryz.results170, Act.put]; exact hbel)
 | some n =>
   obtain rfl : v' = (n : Int) := by have := hv n rfl; omega
   simp only [Option.isSome_some]
   clear hE hn hT hok hbelow hset hv
   apply hk2
   go_wp2
   try go_wp2
   first | (go_ret; exact ⟨rfl, hbel⟩) | (go_ret2; exact ⟨rfl, hbel⟩) | (go_end0; exact ⟨rfl, hbel⟩) | (simp [bodyPost, results, Tryz.results170, Act.put]; exact hbel)
end Go.Proofs.YtgaabjmbnomimaaGreatDoor
namespace Go.Proofs.YtgaabjmbnomimaaGreatDoor
open Go Go.Ev
def Kw (w : World) : Prop := Lib.Utf8Tabs 1 2 w /\ 3 <= w.heap.size
theorem tabs_of {w0 w : World} (h : Lib.Utf8Tabs 1 2 w0) (k0 : w.heap[1]? = w0.heap[1]?) (k1 : w.heap[2]? = w0.heap[2]?) : Lib.Utf8Tabs 1 2 w := by
 refine ⟨fun c hc => ?_, fun i hi => ⟨?_, ?_⟩⟩
 · have := h.1 c hc
   simp only [World.cell?, k0] at this ⊢; exact this
 · have := (h.2 i hi).1
   simp only [World.cell?, k1] at this ⊢; exact this
 · have := (h.2 i hi).2
   simp only [World.cell?, k1] at this ⊢; exact this
theorem based_tabs {w : World} {A : Nat -> Prop} {bl : Bl} {H : Hp} (hcx : CtxOk Tryz.prog Kw bl.cx) (hH : RepH w A bl H) : Kw w := by
 obtain ⟨w0, h1, h2⟩ := hH.base
 obtain ⟨h3, h4⟩ := hcx.base w0 h1
 have hlt := hH.alt 2 (h2 2 (by omega)).1
 exact ⟨tabs_of h3 (h2 1 (by omega)).2 (h2 2 (by omega)).2, by omega⟩
theorem sound170 {args vals : List V} {H H' : Hp} (h : x170 args H = some (vals, H')) : Enter Tryz.prog 170 /\ Sound Tryz.prog Kw 170 args H vals H' := by
 unfold x170 at h
 split at h
 case h_2 => simp at h
 rename_i s
 split at h <;> simp only [Option.some.injEq, Prod.mk.injEq, reduceCtorEq] at h
 rename_i hs
 obtain ⟨rfl, rfl⟩ := h
 refine ⟨fun args w => ?_, fun w A bl us hcx hH hargs => ?_⟩
 · simp only [callFunc, Sem.run_bind, run_program, Result.andThen_ok, Tryz.func170]
   rfl
 · obtain ⟨hl, hr⟩ := hargs
   match us, hl, hr with
   | [u], _, hr =>
     have hu := (hr 0 _ u rfl rfl).str_inv
     subst hu
     obtain ⟨hT, h2⟩ := based_tabs hcx hH
     have hsz : (⟨s.toArray⟩ : ByteArray).size = s.length := by simp [ByteArray.size]
     have hw := runes_walk ⟨s.toArray⟩ w h2 (by rw [hsz]; omega) hT _ rfl
     refine hw.mono ?_
     rintro e w' ⟨rfl, hb⟩
     have g : Grow w w' := ⟨hb.os, hb.tape, hb.output, hb.size, fun b hb' => hb.block b hb'⟩
     obtain ⟨q1, q2⟩ := grow hH g (N := fun _ => False) (fun b hb => hb.elim)
     refine ⟨_, bl, [_], rfl, ⟨rfl, fun j x u hj hu => ?_⟩, q1, q2, g.evo (fun b hb => .inl hb) (fun b hb => hb.elim .inl False.elim)⟩
     cases j with
     | zero =>
       simp at hj hu
       subst hj; subst hu
       rw [hsz]
       exact .int _ _
     | succ j => simp at hj
end Go.Proofs.YtgaabjmbnomimaaGreatDoor
namespace Go.Proofs.YtgaabjmbnomimaaGreatDoor
open Go Go.Ev Go.Sort
theorem compareBytes_eq : ∀ a b : List UInt8, Lib.compareBytes a b = cmpB a b
 | [], [] => rfl
 | [], _ :: _ => rfl
 | _ :: _, [] => rfl
 | a :: x, b :: y => by
   rw [Lib.compareBytes, compareBytes_eq x y]
   simp only [cmpB, Op.bytesLess, Bool.or_eq_true, decide_eq_true_eq, Bool.and_eq_true, beq_iff_eq]
   by_cases h1 : a < b
   · simp [h1]
   · by_cases h2 : b < a
     · have h3 : a ≠ b := fun e => by subst e; exact h1 h2
       simp [h1, h2, h3]
     · have e : a = b := by
         rw [UInt8.lt_iff_toNat_lt] at h1 h2
         exact UInt8.toNat_inj.1 (by omega)
       subst e
       simp [h1]
theorem compare_walk (s t : Bys) (w : World) : Calls Tryz.prog 122 #[.string ⟨s.toArray⟩, .string ⟨t.toArray⟩] w fun e w' => e = .returned (.int .i64 (cmpB s t)) /\ w' = w := by
 have h := Any.strings_Compare Tryz.lays106 ⟨s.toArray⟩ ⟨t.toArray⟩ w
 rw [show (ByteArray.mk s.toArray).data.toList = s from rfl, show (ByteArray.mk t.toArray).data.toList = t from rfl, compareBytes_eq] at h
 exact h
set_option maxHeartbeats 2000000 in
theorem order_walk (p q : Bys) (v1 v2 : Value) (W : World) : Calls Tryz.prog 121 #[.agg #[.string ⟨p.toArray⟩, v1], .agg #[.string ⟨q.toArray⟩, v2]] W fun e w' => e = .returned (.int .i64 (cmpB p q)) /\ ∃ n os', w' = grow (W.drewN n) os' := by
 have h1 := fun W' => compare_walk p q W'
 obtain ⟨s, hs⟩ : ∃ s, s = cmpB p q := ⟨_, rfl⟩
 simp only [<- hs] at h1 ⊢
 clear hs
 go_enter Tryz.func121, Tryz.ntmps121
 go_wp2_with (go_at_call 122; refine (h1 _).mono ?_; rintro e w' ⟨rfl, rfl⟩)
 all_goals go_ret
 all_goals exact ⟨rfl, 0, _, by rw [alloc_eq_grow, alloc_eq_grow, grow_grow]; rfl⟩
theorem enter120 : Enter Tryz.prog 120 := fun args w => by
 simp only [callFunc, Sem.run_bind, run_program, Result.andThen_ok, Tryz.func120]
 rfl
theorem enter121 (args : Array Value) (w : World) : (callFunc 121 args).run Tryz.prog w = .ok (.enter 121 args) w := by
 simp only [callFunc, Sem.run_bind, run_program, Result.andThen_ok, Tryz.func121]
 rfl
theorem mixedOk : Tryz.prog.follows .mixedOrders = true := by kernel_rfl
noncomputable def E1 : Env := E0 (fun _ => none) (fun _ _ _ => none)
theorem empty73 : callN E1 40 120 [.buf 0 0 0 0, .fn 121 []] [.mem 2 0 []] = some ([], [.mem 2 0 []]) := by kernel_rfl
def encT (vs : Nat -> Value) (t : Tg) : List Value := [.string ⟨t.1.toArray⟩, vs t.2]
theorem sort_walk (vs : Nat -> Value) (hv : ∀ n, (vs n).oneCell' = true) (zs : List Tg) (b d cap : Nat) (w : World) (hH : HoldsK (encT vs) 2 w b d zs.toArray) (hb : b < w.heap.size) (hz : zs.length < 4611686018427387904) :
   Calls Tryz.prog 120 #[.slice (some ⟨b, d, none⟩) zs.length cap, .func (.func 121) #[] #[]] w fun e w' => e = .returned (.tuple #[]) /\ ∃ n os, w' = sortWorldK (encT vs) 2 w b d n (sortT zs).toArray os := by
 have h := AnyQ.slices_SortFunc_eq Tryz.sortE 2 Tryz.isAgg112 Tryz.sizeOf112 (encT vs) (fun _ => rfl) (fun x v h => by
     simp only [encT, List.mem_cons, List.not_mem_nil, or_false] at h
     rcases h with rfl | rfl
     · rfl
     · exact hv _) (fun x y : Tg => cmpB x.1 y.1) swoT 121 #[] b d cap zs.toArray w enter121 (fun _ _ _ _ x y => order_walk x.1 y.1 _ _ _) hH hb (by simpa using hz)
 have e1 : zs.toArray.size = zs.length := by simp
 have e2 : (sortT zs).toArray = pdq (ltOf fun x y : Tg => cmpB x.1 y.1) zs.toArray 0 zs.toArray.size (Lib.bitLen zs.toArray.size) true true := by
   rw [e1]; rfl
 rw [e2]
 rw [e1] at h ⊢
 exact h
theorem flat_getT (vs : Nat -> Value) (l : List Tg) (k j : Nat) (hk : k < l.length) (hj : j < 2) : (flatK (encT vs) 2 l.toArray)[k * 2 + j]! = (encT vs l[k])[j]! := by
 rw [get_flatK (encT vs) 2 l.toArray (k * 2 + j) (by simp; omega)]
 have e1 : (k * 2 + j) / 2 = k := by omega
 have e2 : (k * 2 + j) % 2 = j := by omega
 rw [e1, e2]
 have : l.toArray[k]! = l[k] := by simp [hk]
 rw [this]
theorem isEnts_at {xs : List (List C)} (h : isEnts xs = true) {x : List C} (hx : x ∈ xs) : ∃ p y, x = [.str p, .sl 5 none false y] := by
 have := List.all_eq_true.1 h x hx
 have h2 := shape_ok this
 exact ⟨_, _, h2.symm⟩
set_option maxHeartbeats 1000000 in
theorem sound120 {args vals : List V} {H H' : Hp} (h : x120 args H = some (vals, H')) : Enter Tryz.prog 120 /\ Sound Tryz.prog Kw 120 args H vals H' := by
 unfold x120 at h
 split at h
 case h_2 => simp at h
 rename_i len xs
 split at h <;> simp only [Option.some.injEq, Prod.mk.injEq, reduceCtorEq] at h
 rename_i hc
 obtain ⟨hi, rfl, hlt⟩ := hc
 obtain ⟨rfl, rfl⟩ := h
 refine ⟨enter120, ?_⟩
 by_cases hne : xs = []
 · subst hne
   have e : sortX [] = [] := List.length_eq_zero_iff.1 (sortX_len [] (by simp))
   rw [e]
   exact (callN_sound (K := Kw) (draw_ok mixedOk) (env_ok fun g f args H vals H' h => by cases h) 40 _ _ _ _ _ empty73).2
 intro w A bl us hcx hH hargs
 obtain ⟨hl, hr⟩ := hargs
 match us, hl, hr with
 | [u, v], _, hr =>
   have hv := hr 1 _ v rfl rfl
   have hv' : v = .func (.func 121) #[] #[] := by
     cases hv with
     | fn _ _ vs hs _ =>
       have : vs = #[] := by apply Array.eq_empty_of_size_eq_zero; simpa using hs.symm
       rw [this]
   subst hv'
   have hu := hr 0 _ u rfl rfl
   cases hu with
   | buf _ _ _ _ a l cap k1 k2 k9003 =>
     obtain ⟨j1, rfl, ⟨j2, j3, j4⟩, j5⟩ := k9003 2 xs rfl
     have hpos : 0 < xs.length := List.length_pos_iff.2 hne
     obtain ⟨b, d, n, h1, rfl, h3, h4⟩ := j5 (by omega)
     obtain ⟨o1, o2, o3⟩ := hH.obj 0 _ rfl
     obtain ⟨arr, t, g1, g2, g9003⟩ := o3 b d h1
     have hblt : b < w.heap.size := (hH.lt 0 b d ⟨_, rfl, rfl⟩ h1).1
     obtain ⟨vs, hvs⟩ : ∃ vs : Nat -> Value, vs = fun m => if m < xs.length then (arr[d + m * 2 + 1]?).getD .nilFunc else .nilFunc := ⟨_, rfl⟩
     have hvr : ∀ m, (hm : m < xs.length) -> arr[d + m * 2 + 1]? = some (vs m) /\ ∀ c, xs[m][1]? = some c -> RepC w A c (vs m) := fun m hm => by
       have hlen := o1 xs[m] (List.getElem_mem hm)
       obtain ⟨u, u1, u2⟩ := g9003 m 1 xs[m] (xs[m][1]'(by omega)) (List.getElem?_eq_getElem hm) (List.getElem?_eq_getElem _)
       have : vs m = u := by rw [hvs]; simp only [if_pos hm, u1, Option.getD_some]
       refine ⟨by rw [this]; exact u1, fun c hc => ?_⟩
       rw [List.getElem?_eq_getElem (by omega), Option.some.injEq] at hc
       rw [this, <- hc]; exact u2
     have hv1 : ∀ m, (vs m).oneCell' = true := fun m => by
       by_cases hm : m < xs.length
       · have hlen := o1 xs[m] (List.getElem_mem hm)
         exact repC_one ((hvr m hm).2 _ (List.getElem?_eq_getElem (show 1 < xs[m].length by omega)))
       · rw [hvs]; simp only [if_neg hm]; rfl
     have htl := tagE_len 0 xs
     have hpt : ∀ m, (hm : m < xs.length) -> ∃ y, xs[m] = [.str (xs[m].headD .pnil).st, y] := fun m hm => by
       obtain ⟨p, y, e⟩ := isEnts_at hi (List.getElem_mem hm)
       exact ⟨_, by rw [e]; rfl⟩
     have hcell : ∀ t, t < (tagE 0 xs).length * 2 -> arr[d + t]? = some ((flatK (encT vs) 2 (tagE 0 xs).toArray)[t]!) := fun t ht => by
       have hk : t / 2 < xs.length := by omega
       have hj : t % 2 < 2 := by omega
       have e : t / 2 * 2 + t % 2 = t := by omega
       conv => rhs; rw [<- e, flat_getT vs _ _ _ (by omega) hj, tagE_get 0 xs _ hk]
       obtain ⟨y, hy⟩ := hpt _ hk
       rcases Nat.lt_or_ge (t % 2) 1 with h0 | h0
       · have e0 : t % 2 = 0 := by omega
         obtain ⟨u, u1, u2⟩ := g9003 (t / 2) 0 xs[t / 2] (.str (xs[t / 2].headD .pnil).st) (List.getElem?_eq_getElem hk) (by rw [hy]; rfl)
         rw [e0, show d + t = d + t / 2 * 2 + 0 by omega, u1]
         cases u2; rfl
       · have e0 : t % 2 = 1 := by omega
         rw [e0, show d + t = d + t / 2 * 2 + 1 by omega, (hvr _ hk).1, Nat.zero_add]; rfl
     have hHolds : HoldsK (encT vs) 2 w b d (tagE 0 xs).toArray := fun j hj => by
       have hj' : j < (tagE 0 xs).length * 2 := by simpa using hj
       refine ⟨?_, by simp [World.frozen?, g1]⟩
       rw [cell_of_heap g1, hcell j hj']
       rfl
     have hs := sort_walk vs hv1 (tagE 0 xs) b d cap w hHolds hblt (by omega)
     rw [htl] at hs
     have e0 : (⟨b, d + 0 * 2, none⟩ : Addr) = ⟨b, d, none⟩ := by simp
     rw [e0]
     refine Calls.mono hs ?_
     rintro e w' ⟨rfl, nn, os, hw'⟩
     have hspec := sortT_spec (tagE 0 xs) (by omega)
     have hlen : (sortT (tagE 0 xs)).length = xs.length := by rw [hspec.1.length_eq, htl]
     have hmem : ∀ t ∈ sortT (tagE 0 xs), ∃ h : t.2 < xs.length, t.1 = (xs[t.2].headD .pnil).st := fun t ht => tagE_mem (hspec.1.mem_iff.1 ht)
     have hX : sortX xs = (sortT (tagE 0 xs)).map fun t => xs.getD t.2 [] := rfl
     rw [hX]
     generalize sortT (tagE 0 xs) = ss at *
     have hfs : (flatK (encT vs) 2 ss.toArray).size = xs.length * 2 := by simp [hlen]
     replace hw' : w' = Go.Sort.grow (putRow id (Sort.ahead w nn) b d (flatK (encT vs) 2 ss.toArray)) os := hw'
     have hw1 : (putRow id (Sort.ahead w nn) b d (flatK (encT vs) 2 ss.toArray)).heap[b]? = some (.cells (putCells id d (flatK (encT vs) 2 ss.toArray) arr) t (0, 0)) := by
       simp [putRow, mapBlock, Array.getElem?_modify, g1, onCells]
     have hk1 : ∀ c, c ≠ b -> (putRow id (Sort.ahead w nn) b d (flatK (encT vs) 2 ss.toArray)).heap[c]? = w.heap[c]? := fun c hc => by
       simp [putRow, mapBlock, Array.getElem?_modify, Ne.symm hc]
     have hsz1 : (putRow id (Sort.ahead w nn) b d (flatK (encT vs) 2 ss.toArray)).heap.size = w.heap.size := by simp
     have hos2 : (putRow id (Sort.ahead w nn) b d (flatK (encT vs) 2 ss.toArray)).os = w.os /\ (putRow id (Sort.ahead w nn) b d (flatK (encT vs) 2 ss.toArray)).tape = w.tape /\ (putRow id (Sort.ahead w nn) b d (flatK (encT vs) 2 ss.toArray)).output = w.output := ⟨rfl, rfl, rfl⟩
     generalize putRow id (Sort.ahead w nn) b d (flatK (encT vs) 2 ss.toArray) = W2 at hw1 hk1 hsz1 hw' hos2
     subst hw'
     have hps : (putCells id d (flatK (encT vs) 2 ss.toArray) arr).size = arr.size := by simp [putCells]
     have hml : (ss.map fun t => xs.getD t.2 []).length = xs.length := by rw [List.length_map, hlen]
     have hle := le_set (o' := O.mem 2 0 (ss.map fun t => xs.getD t.2 [])) hH (i0 := 0) rfl rfl h1 g1 hps hw1 hk1 (fun z e xs' he => by
       simp only [O.mem.injEq] at he
       obtain ⟨rfl, rfl, rfl⟩ := he
       exact ⟨0, xs, rfl, Nat.le_refl _, fun _ => by rw [hml]⟩) (fun cs he => by cases he)
     have hat : ∀ k, (hk : k < ss.length) -> (ss.map fun t => xs.getD t.2 [])[k]? = some (xs[(ss[k]).2]'(hmem _ (List.getElem_mem hk)).1) := fun k hk => by
       rw [List.getElem?_map, List.getElem?_eq_getElem hk, Option.map_some, List.getD_eq_getElem?_getD, List.getElem?_eq_getElem (hmem _ (List.getElem_mem hk)).1]; rfl
     have hrep := rep_set hH (i0 := 0) rfl rfl h1 hle hk1 hsz1 (by
       refine ⟨fun cs hcs => ?_, fun hn => (by rw [h1] at hn; cases hn), fun b' d' hb' => ?_⟩
       · obtain ⟨k, hk, rfl⟩ := List.getElem_of_mem hcs
         have hk2 : k < ss.length := by simpa using hk
         have := hat k hk2
         rw [List.getElem?_eq_getElem hk, Option.some.injEq] at this
         rw [this]; exact o1 _ (List.getElem_mem _)
       · rw [h1] at hb'
         simp only [Option.some.injEq, Prod.mk.injEq] at hb'
         obtain ⟨rfl, rfl⟩ := hb'
         refine ⟨_, t, hw1, by rw [hps, hml]; exact g2, fun k j cs x hk hj => ?_⟩
         have hk' : k < ss.length := by have := (List.getElem?_eq_some_iff.1 hk).1; simpa using this
         rw [hat k hk', Option.some.injEq] at hk
         obtain ⟨hm, hmp⟩ := hmem _ (List.getElem_mem hk')
         subst hk
         have hj2 : j < 2 := by have := (List.getElem?_eq_some_iff.1 hj).1; rw [o1 _ (List.getElem_mem hm)] at this; exact this
         have hlt2 : d + k * 2 + j < arr.size := by omega
         have hval : (putCells id d (flatK (encT vs) 2 ss.toArray) arr)[d + k * 2 + j]? = some ((encT vs ss[k])[j]!) := by
           simp only [putCells, Array.getElem?_mapIdx, Array.getElem?_eq_getElem hlt2, Option.map_some, Option.some.injEq]
           rw [if_pos ⟨by omega, by rw [hfs]; omega⟩]
           have e5 : d + k * 2 + j - d = k * 2 + j := by omega
           rw [e5]
           exact flat_getT vs ss k j hk' hj2
         refine ⟨_, hval, ?_⟩
         have hC : ∀ c, A c -> W2.heap[c]? = w.heap[c]? := fun c hc => hk1 c fun e => (hH.lt 0 b d ⟨_, rfl, rfl⟩ h1).2 (e ▸ hc)
         rcases Nat.lt_or_ge j 1 with h0 | h0
         · obtain rfl : j = 0 := by omega
           obtain ⟨y, hy⟩ := hpt _ hm
           rw [hy] at hj
           simp only [List.getElem?_cons_zero, Option.some.injEq] at hj
           rw [<- hj, <- hmp]
           exact .str _
         · obtain rfl : j = 1 := by omega
           exact ((hvr _ hm).2 _ hj).mono hC fun _ h => h) hos2
     have g : Grow W2 (Go.Sort.grow W2 os) := ⟨rfl, rfl, rfl, by simp, fun c hc => heap_grow_old W2 os hc⟩
     have hset : ([O.mem 2 0 xs] : Hp).set 0 (O.mem 2 0 (ss.map fun t => xs.getD t.2 [])) = [O.mem 2 0 (ss.map fun t => xs.getD t.2 [])] := rfl
     rw [hset] at hrep hle
     obtain ⟨q1, q2⟩ := Ev.grow hrep g (N := fun _ => False) (fun b hb => hb.elim)
     refine ⟨_, bl, [], rfl, ⟨rfl, fun j x u hj => by simp at hj⟩, q1, hle.trans q2, ?_⟩
     refine Evo.trans (A1 := A) (L1 := Liv bl [O.mem 2 0 (ss.map fun t => xs.getD t.2 [])]) ?_ (g.evo (fun b hb => .inl hb) (fun b hb => hb.elim .inl False.elim))
     exact ⟨hos2.1, hos2.2.1, hos2.2.2, by omega, fun c hc hL => hk1 c fun e => hL (.inl ⟨0, d, ⟨_, rfl, rfl⟩, e ▸ h1⟩), fun c hc => .inl (liv_set (i0 := 0) (o := .mem 2 0 xs) rfl rfl hc), fun c hc => .inl hc⟩
end Go.Proofs.YtgaabjmbnomimaaGreatDoor
namespace Go.Proofs.YtgaabjmbnomimaaGreatDoor
open Go Go.Ev
theorem drawOk : DrawOk Tryz.prog Kw := draw_ok mixedOk
theorem envOk : EnvOk Tryz.prog Kw E := env_ok fun g f args H vals H' h1 h2 => by
 unfold xt at h1
 split at h1 <;> simp only [Option.some.injEq, reduceCtorEq] at h1
 · subst h1; exact sound170 h2
 · subst h1; exact sound171 h2
 · subst h1; exact sound127 h2
 · subst h1; exact sound131 h2
 · subst h1; exact sound119 h2
 · subst h1; exact sound120 h2
end Go.Proofs.YtgaabjmbnomimaaGreatDoor
namespace Go.Proofs.YtgaabjmbnomimaaGreatDoor
open Go Go.Ev
set_option maxRecDepth 100000
theorem rdI {t : TypeId} (ht : Tryz.prog.underlying t = some (.int .i64)) {n : Nat} {xs : List C} (h : Rd Tryz.prog n t xs) : ∃ v, xs = [.int .i64 v] := by
 cases n with
 | zero => exact h.elim
 | succ n =>
   simp only [Rd, ht] at h
   obtain ⟨v, rfl, _⟩ := h
   exact ⟨v, rfl⟩
theorem rdS {t : TypeId} (ht : Tryz.prog.underlying t = some .string) {n : Nat} {xs : List C} (h : Rd Tryz.prog n t xs) : ∃ v, xs = [.str v] := by
 cases n with
 | zero => exact h.elim
 | succ n =>
   simp only [Rd, ht] at h
   obtain ⟨v, rfl, _⟩ := h
   exact ⟨v, rfl⟩
theorem rdL {α : Type} {t e : TypeId} {z : Nat} (ht : Tryz.prog.underlying t = some (.slice e)) (hz : Tryz.prog.cellsOf e = z) (enc : α -> List C) (he : ∀ {n : Nat} {xs : List C}, Rd Tryz.prog n e xs -> ∃ a, xs = enc a) {n : Nat} {xs : List C} (h : Rd Tryz.prog n t xs) :
   ∃ l : List α, xs = [.sl z none false (l.map enc)] /\ l.length <= maxLen := by
 cases n with
 | zero => exact h.elim
 | succ n =>
   simp only [Rd, ht] at h
   obtain ⟨ys, rfl, hq, hy⟩ := h
   have : ∃ l : List α, ys = l.map enc := by
     clear hq
     induction ys with
     | nil => exact ⟨[], rfl⟩
     | cons y r ih =>
       obtain ⟨l, rfl⟩ := ih (fun z hz => hy z (by simp [hz]))
       obtain ⟨c, rfl⟩ := he (hy y (by simp))
       exact ⟨c :: l, rfl⟩
   obtain ⟨l, rfl⟩ := this
   exact ⟨l, by rw [hz], by simpa using hq⟩
theorem rdVal {n : Nat} {xs : List C} (h : Rd Tryz.prog n 82 xs) : ∃ v : Val, xs = ev v := by
 cases n with
 | zero => exact h.elim
 | succ n =>
   rw [Rd, Tryz.underlying82] at h
   obtain ⟨parts, hl, rfl, hp⟩ := h
   match parts, hl with
   | [p, q, r], _ =>
     obtain ⟨k, rfl⟩ := rdI Tryz.underlying80 (hp 0 _ p rfl rfl)
     obtain ⟨m, rfl⟩ := rdI Tryz.underlying3 (hp 1 _ q rfl rfl)
     obtain ⟨s, rfl⟩ := rdS Tryz.underlying9 (hp 2 _ r rfl rfl)
     exact ⟨⟨k, m, s⟩, rfl⟩
theorem rdRow {n : Nat} {xs : List C} (h : Rd Tryz.prog n 108 xs) : ∃ r : Row, xs = er r := by
 cases n with
 | zero => exact h.elim
 | succ n =>
   rw [Rd, Tryz.underlying108] at h
   obtain ⟨parts, hl, rfl, hp⟩ := h
   match parts, hl with
   | [p, q, r], _ =>
     obtain ⟨x, rfl⟩ := rdI Tryz.underlying3 (hp 0 _ p rfl rfl)
     obtain ⟨y, rfl⟩ := rdI Tryz.underlying3 (hp 1 _ q rfl rfl)
     obtain ⟨v, rfl⟩ := rdVal (hp 2 _ r rfl rfl)
     exact ⟨⟨x, y, v⟩, rfl⟩
theorem rdRows {n : Nat} {xs : List C} (h : Rd Tryz.prog n 28 xs) : ∃ l : List Row, xs = [.sl 5 none false (rows l)] /\ l.length <= maxLen :=
 rdL Tryz.underlying28 (by kernel_rfl) er rdRow h
theorem arC {α : Type} {t : TypeId} (enc : α -> C) (ha : aggAt Tryz.prog t = false) (he : ∀ {n : Nat} {xs : List C}, Rd Tryz.prog n t xs -> ∃ a, xs = [enc a]) {v : V} {vl : List V} {ts : List TypeId} (h : Args Tryz.prog (t :: ts) (v :: vl)) : (∃ a, v = .c (enc a)) /\ Args Tryz.prog ts vl := by
 obtain ⟨⟨n, xs, h1, e0⟩, h2⟩ := h
 subst e0
 obtain ⟨a, rfl⟩ := he h1
 refine ⟨⟨a, ?_⟩, h2⟩
 unfold argV
 rw [ha]
theorem arA {α : Type} {t : TypeId} (enc : α -> List C) (ha : aggAt Tryz.prog t = true) (he : ∀ {n : Nat} {xs : List C}, Rd Tryz.prog n t xs -> ∃ a, xs = enc a) {v : V} {vl : List V} {ts : List TypeId} (h : Args Tryz.prog (t :: ts) (v :: vl)) : (∃ a, v = .agg ((enc a).map .c)) /\ Args Tryz.prog ts vl := by
 obtain ⟨⟨n, xs, h1, e0⟩, h2⟩ := h
 subst e0
 obtain ⟨a, rfl⟩ := he h1
 refine ⟨⟨a, ?_⟩, h2⟩
 unfold argV
 rw [ha]
theorem args1 {a : TypeId} {vl : List V} (h : Args Tryz.prog [a] vl) : ∃ v, vl = [v] := by
 cases vl with
 | nil => exact h.elim
 | cons v r => cases r with
   | nil => exact ⟨v, rfl⟩
   | cons _ _ => exact h.2.elim
theorem args2 {a b : TypeId} {vl : List V} (h : Args Tryz.prog [a, b] vl) : ∃ v w, vl = [v, w] := by
 cases vl with
 | nil => exact h.elim
 | cons v r => obtain ⟨w, rfl⟩ := args1 (a := b) h.2; exact ⟨v, w, rfl⟩
theorem args3 {a b c : TypeId} {vl : List V} (h : Args Tryz.prog [a, b, c] vl) : ∃ v w x, vl = [v, w, x] := by
 cases vl with
 | nil => exact h.elim
 | cons v r => obtain ⟨w, x, rfl⟩ := args2 (a := b) (b := c) h.2; exact ⟨v, w, x, rfl⟩
theorem kw_of {l : List (String × DataW Unit)} {W : World} (hA : ("unicode/utf8.acceptRanges", Rows.laid_unicode_utf8_acceptRanges) ∈ l) (hF : ("unicode/utf8.first", Rows.laid_unicode_utf8_first) ∈ l) (h : laidMet Tryz.prog l W) : Kw W := by
 have ha : Rows.laid_unicode_utf8_acceptRanges = Lib.acceptData := by kernel_rfl
 have hf : Rows.laid_unicode_utf8_first = Lib.firstData := Pinned.utf8First_eq
 have hU : Lib.Utf8Tabs 1 2 W :=
   utf8Tabs_of_readsT (ρ := Tryz.lays197_ren) { Tryz.lays197 with } ⟨by kernel_rfl, by kernel_rfl, by kernel_rfl, by kernel_rfl, by kernel_rfl, by kernel_rfl, by kernel_rfl⟩ (hf ▸ Lib.laidMet.reads h hF) (ha ▸ Lib.laidMet.reads h hA)
 refine ⟨hU, ?_⟩
 have h1 := (hU.2 0 (by omega)).1
 rcases Nat.lt_or_ge 2 W.heap.size with h2 | h2
 · exact h2
 · exfalso
   simp only [World.cell?] at h1
   rw [Array.getElem?_eq_none h2] at h1
   simp at h1
def firstCells : Obj -> Obj
 | .cells _ t frozen => .cells (Lib.firstTab.map (Value.int .u8)).toArray t frozen
 | o => o
def acceptCells : Obj -> Obj
 | .cells _ t frozen => .cells (((List.range 16).flatMap fun i => [Value.int .u8 (Lib.accLo i), Value.int .u8 (Lib.accHi i)])).toArray t frozen
 | o => o
noncomputable def laidWorld (os : Os) : World :=
 { World.holding Tryz.prog os ⟨#[], #[], []⟩ with heap := ((World.holding Tryz.prog os ⟨#[], #[], []⟩).heap.modify 1 firstCells).modify 2 acceptCells }
theorem own : ownKnob Tryz.prog.godebug = none := by kernel_rfl
end Go.Proofs.YtgaabjmbnomimaaGreatDoor
namespace Go.Proofs.YtgaabjmbnomimaaGreatDoor
open Go Go.Ev
set_option maxRecDepth 100000
theorem rdSl {t : TypeId} (ht : Tryz.prog.underlying t = some .string) {n : Nat} {xs : List C} (h : Rd Tryz.prog n t xs) : ∃ v : List UInt8, xs = [.str v] /\ v.length <= maxLen := by
 cases n with
 | zero => exact h.elim
 | succ n =>
   simp only [Rd, ht] at h
   exact h
theorem rdT : ∀ (n : Nat) (xs : List C), (Rd Tryz.prog n 30 xs -> ∃ t : Nd, xs = t.enc /\ lensT t = true) /\ (Rd Tryz.prog n 23 xs -> ∃ ks : List Nd, xs = [.sl 3 none false (encL ks)] /\ lensL ks = true /\ ks.length <= maxLen)
 | 0, xs => ⟨fun h => h.elim, fun h => h.elim⟩
 | n + 1, xs => by
   refine ⟨fun h => ?_, fun h => ?_⟩
   · rw [Rd, Tryz.underlying30] at h
     obtain ⟨parts, hl, rfl, hp⟩ := h
     match parts, hl with
     | [p, q, r], _ =>
       obtain ⟨s, rfl, h1⟩ := rdSl Tryz.underlying9 (hp 0 _ p rfl rfl)
       obtain ⟨rs, rfl, h2⟩ := rdRows (hp 1 _ q rfl rfl)
       obtain ⟨ks, rfl, h3, h4⟩ := (rdT n r).2 (hp 2 _ r rfl rfl)
       refine ⟨.node s rs ks, by rw [Nd.enc]; rfl, ?_⟩
       have hm : maxLen <= 9223372036854775807 := by decide
       rw [lensT, h3]
       simp only [Bool.and_eq_true, decide_eq_true_eq]
       exact ⟨⟨⟨by omega, by omega⟩, by omega⟩, trivial⟩
   · rw [Rd, Tryz.underlying23] at h
     obtain ⟨ys, rfl, hq, hy⟩ := h
     have hz : Tryz.prog.cellsOf 30 = 3 := by kernel_rfl
     have : ∃ l : List Nd, ys = encL l /\ lensL l = true := by
       clear hq
       induction ys with
       | nil => exact ⟨[], rfl, rfl⟩
       | cons y r ih =>
         obtain ⟨l, rfl, hl⟩ := ih (fun z hz => hy z (by simp [hz]))
         obtain ⟨t, rfl, ht⟩ := (rdT n y).1 (hy y (by simp))
         exact ⟨t :: l, by rw [encL], by rw [lensL, ht, hl]; rfl⟩
     obtain ⟨l, rfl, hl⟩ := this
     exact ⟨l, by rw [hz], hl, by simpa using hq⟩
structure Lt where
 t : Nd
 ok : lensT t = true
theorem rd30 {n : Nat} {xs : List C} (h : Rd Tryz.prog n 30 xs) : ∃ x : Lt, xs = x.t.enc := by
 obtain ⟨t, h1, h2⟩ := (rdT n xs).1 h
 exact ⟨⟨t, h2⟩, h1⟩
theorem enc_VT (t : Nd) : V.agg (t.enc.map .c) = VT t := by rw [Nd.enc_eq]; rfl
theorem ar30 {v : V} {vl : List V} {ts : List TypeId} (h : Args Tryz.prog (30 :: ts) (v :: vl)) : (∃ x : Lt, v = VT x.t) /\ Args Tryz.prog ts vl := by
 obtain ⟨⟨x, h1⟩, h2⟩ := arA (fun x : Lt => x.t.enc) (by kernel_rfl) rd30 h
 exact ⟨⟨x, by rw [h1, enc_VT]⟩, h2⟩
end Go.Proofs.YtgaabjmbnomimaaGreatDoor
namespace Go.Proofs.YtgaabjmbnomimaaGreatDoor
open Go Go.Ev
theorem bl_ge {e p q : List UInt8} (h : Op.bytesLess e p = false) (k : Op.bytesLess p q = false) : Op.bytesLess e q = false := by
 cases c : Op.bytesLess e q with
 | false => rfl
 | true =>
   cases d : Op.bytesLess q p with
   | true => rw [bl_trans c d] at h; cases h
   | false => rw [bl_total _ _ k d, c] at h; cases h
theorem bl_gt {p q : List UInt8} (h : Op.bytesLess q p = false) (k : q ≠ p) : Op.bytesLess p q = true := by
 cases c : Op.bytesLess p q with
 | true => rfl
 | false => exact absurd (bl_total _ _ h c) k
theorem look_in {l : List Ent} {e : Ent} (h : Rise l) (he : e ∈ l) : look l e.1 = e.2 := by
 induction l with
 | nil => cases he
 | cons a l ih =>
   rw [Rise, List.pairwise_cons] at h
   rw [look]
   rcases List.mem_cons.1 he with rfl | he
   · rw [if_pos rfl]
   · rw [if_neg (bl_ne (h.1 e he)), ih h.2 he]
theorem look_ex {l : List Ent} {q : List UInt8} (h : look l q ≠ []) : ∃ e ∈ l, e.1 = q := by
 induction l with
 | nil => exact absurd rfl h
 | cons a l ih =>
   rw [look] at h
   split at h
   · rename_i c; exact ⟨a, by simp, c⟩
   · obtain ⟨e, h1, h2⟩ := ih h; exact ⟨e, by simp [h1], h2⟩
abbrev Pne (x : List Ent) : Prop := ∀ e ∈ x, e.1 ≠ []
abbrev Rne (x : List Ent) : Prop := ∀ e ∈ x, e.2 ≠ []
abbrev Lo (p : Bys) (x : List Ent) : Prop := ∀ e ∈ x, Op.bytesLess e.1 p = false
theorem Lo.mono {p q : List UInt8} {x : List Ent} (h : Lo p x) (k : Op.bytesLess p q = false) : Lo q x := fun e he => bl_ge (h e he) k
theorem leastP_spec (p : Bys) {x : List Ent} (hx : Rise x) (nx : Pne x) :
   (leastP p x = [] ↔ p = [] /\ x = []) /\ Lo (leastP p x) x /\ (p ≠ [] -> Op.bytesLess p (leastP p x) = false) /\ (leastP p x = p \/ ∃ e ∈ x, leastP p x = e.1) := by
 cases x with
 | nil => exact ⟨by simp [leastP], by simp, fun _ => bl_irrefl _, .inl rfl⟩
 | cons e l =>
   have hne := nx e (by simp)
   have hlo : Lo e.1 (e :: l) := fun a ha => by
     rcases List.mem_cons.1 ha with rfl | ha
     · exact bl_irrefl _
     · rw [Rise, List.pairwise_cons] at hx; exact bl_asymm (hx.1 a ha)
   cases p with
   | nil => exact ⟨by simp [leastP, hne], hlo, fun h => absurd rfl h, .inr ⟨e, by simp, rfl⟩⟩
   | cons b q =>
     simp only [leastP]
     cases c : Op.bytesLess e.1 (b :: q) with
     | true => exact ⟨by simp [hne], hlo, fun _ => bl_asymm c, .inr ⟨e, by simp, rfl⟩⟩
     | false => exact ⟨by simp, hlo.mono c, fun _ => bl_irrefl _, .inl rfl⟩
theorem least3_spec {x y z : List Ent} (hx : Rise x) (hy : Rise y) (hz : Rise z) (nx : Pne x) (ny : Pne y) (nz : Pne z) :
   (leastP (leastP (leastP [] x) y) z = [] ↔ x = [] /\ y = [] /\ z = []) /\ Lo (leastP (leastP (leastP [] x) y) z) x /\ Lo (leastP (leastP (leastP [] x) y) z) y /\ Lo (leastP (leastP (leastP [] x) y) z) z ∧
   (leastP (leastP (leastP [] x) y) z ≠ [] -> ∃ e, (e ∈ x \/ e ∈ y \/ e ∈ z) /\ leastP (leastP (leastP [] x) y) z = e.1) := by
 obtain ⟨a1, a2, a3, a4⟩ := leastP_spec [] hx nx
 obtain ⟨b1, b2, b9003, b9004⟩ := leastP_spec (leastP [] x) hy ny
 obtain ⟨c1, c2, c3, c4⟩ := leastP_spec (leastP (leastP [] x) y) hz nz
 generalize leastP [] x = p at *
 generalize leastP p y = q at *
 generalize leastP q z = r at *
 have hqr : ∀ {w : List Ent}, Lo q w -> (q = [] -> w = []) -> Lo r w := fun {w} h k => by
   by_cases c : q = []
   · rw [k c]; simp
   · exact h.mono (c3 c)
 have hpq : ∀ {w : List Ent}, Lo p w -> (p = [] -> w = []) -> Lo q w := fun {w} h k => by
   by_cases c : p = []
   · rw [k c]; simp
   · exact h.mono (b9003 c)
 refine ⟨by rw [c1, b1, a1]; simp [and_assoc], hqr (hpq a2 fun h => (a1.1 h).2) fun h => (a1.1 (b1.1 h).1).2, hqr b2 fun h => (b1.1 h).2, c2, fun hr => ?_⟩
 rcases c4 with c4 | ⟨e, he, c4⟩
 · rcases b9004 with b9004 | ⟨e, he, b9004⟩
   · rcases a4 with a4 | ⟨e, he, a4⟩
     · exact absurd (by rw [c4, b9004, a4]) hr
     · exact ⟨e, .inl he, by rw [c4, b9004, a4]⟩
   · exact ⟨e, .inr (.inl he), by rw [c4, b9004]⟩
 · exact ⟨e, .inr (.inr he), c4⟩
theorem headP_look {p : List UInt8} {x : List Ent} (hx : Rise x) (h : Lo p x) : headP p x = look x p := by
 cases x with
 | nil => rfl
 | cons e l =>
   rw [headP, look]
   by_cases c : e.1 = p
   · rw [if_pos c, beq_iff_eq.2 c]; rfl
   · rw [if_neg c, beq_eq_false_iff_ne.2 c]
     rw [Rise, List.pairwise_cons] at hx
     have h1 := bl_gt (h e (by simp)) c
     exact (look_none fun a ha k => bl_ne (bl_trans h1 (hx.1 a ha)) k.symm).symm
theorem tailP_sub (p : Bys) (x : List Ent) : (tailP p x).Sublist x := by
 cases x with
 | nil => exact .slnil
 | cons e l => rw [tailP]; cases e.1 == p with | true => exact List.sublist_cons_self _ _ | false => exact List.Sublist.refl _
theorem tailP_gt {p : List UInt8} {x : List Ent} (hx : Rise x) (h : Lo p x) : ∀ e ∈ tailP p x, Op.bytesLess p e.1 = true := by
 cases x with
 | nil => simp [tailP]
 | cons e l =>
   intro a ha
   rw [Rise, List.pairwise_cons] at hx
   rw [tailP] at ha
   cases c : e.1 == p with
   | true =>
     rw [c] at ha
     have := hx.1 a ha
     rw [beq_iff_eq.1 c] at this; exact this
   | false =>
     rw [c] at ha
     have h1 := bl_gt (h e (by simp)) (beq_eq_false_iff_ne.1 c)
     rcases List.mem_cons.1 ha with rfl | ha
     · exact h1
     · exact bl_trans h1 (hx.1 a ha)
theorem tailP_look {p q : List UInt8} {x : List Ent} (hq : q ≠ p) : look (tailP p x) q = look x q := by
 cases x with
 | nil => rfl
 | cons e l =>
   rw [tailP, look]
   cases c : e.1 == p with
   | true => rw [if_neg (by rw [beq_iff_eq.1 c]; exact fun h => hq h.symm)]; rfl
   | false => rfl
theorem tailP_len {p : List UInt8} {x : List Ent} (hx : Rise x) (h : Lo p x) {e : Ent} (he : e ∈ x) (hp : p = e.1) : (tailP p x).length < x.length := by
 cases x with
 | nil => cases he
 | cons a l =>
   have : (a.1 == p) = true := by
     rw [beq_iff_eq]
     rcases List.mem_cons.1 he with rfl | he
     · exact hp.symm
     · rw [Rise, List.pairwise_cons] at hx
       have h1 := hx.1 e he
       rw [<- hp, h a (by simp)] at h1; cases h1
   rw [tailP, this]; simp
theorem sidesF_end (f : Nat) {x y z : List Ent} (h : leastP (leastP (leastP [] x) y) z = []) : sidesF (f + 1) x y z = [] := by rw [sidesF, h]
theorem sidesF_step (f : Nat) {x y z : List Ent} {p : List UInt8} (h : leastP (leastP (leastP [] x) y) z = p) (hp : p ≠ []) :
   sidesF (f + 1) x y z = ⟨p, headP p x, headP p y, headP p z⟩ :: sidesF f (tailP p x) (tailP p y) (tailP p z) := by
 rw [sidesF, h]
 cases p with
 | nil => exact absurd rfl hp
 | cons b q => rfl
structure SP (x y z : List Ent) (S : List Sd) : Prop where
 rise : S.Pairwise fun s t => Op.bytesLess s.p t.p = true
 ne : ∀ s ∈ S, s.p ≠ []
 a : ∀ s ∈ S, s.a = look x s.p
 b : ∀ s ∈ S, s.b = look y s.p
 c : ∀ s ∈ S, s.c = look z s.p
 mem : ∀ s ∈ S, ∃ e, (e ∈ x \/ e ∈ y \/ e ∈ z) /\ e.1 = s.p
 all : ∀ e, e ∈ x \/ e ∈ y \/ e ∈ z -> ∃ s ∈ S, s.p = e.1
theorem sidesF_spec : ∀ (f : Nat) (x y z : List Ent), x.length + y.length + z.length < f -> Rise x -> Rise y -> Rise z -> Pne x -> Pne y -> Pne z -> SP x y z (sidesF f x y z)
 | 0, x, y, z, h, _, _, _, _, _, _ => by omega
 | f + 1, x, y, z, h, hx, hy, hz, nx, ny, nz => by
   obtain ⟨h1, h2, h3, h4, h5⟩ := least3_spec hx hy hz nx ny nz
   generalize hp : leastP (leastP (leastP [] x) y) z = p at *
   by_cases c : p = []
   · subst c
     obtain ⟨rfl, rfl, rfl⟩ := h1.1 rfl
     rw [sidesF_end f hp]
     exact ⟨.nil, by simp, by simp, by simp, by simp, by simp, by simp⟩
   · rw [sidesF_step f hp c]
     have sx := tailP_sub p x; have sy := tailP_sub p y; have sz := tailP_sub p z
     have hlen : (tailP p x).length + (tailP p y).length + (tailP p z).length < f := by
       obtain ⟨e, he, hpe⟩ := h5 c
       have l1 := sx.length_le; have l2 := sy.length_le; have l3 := sz.length_le
       rcases he with he | he | he
       · have := tailP_len hx h2 he hpe; omega
       · have := tailP_len hy h3 he hpe; omega
       · have := tailP_len hz h4 he hpe; omega
     have ih := sidesF_spec f (tailP p x) (tailP p y) (tailP p z) hlen (hx.sublist sx) (hy.sublist sy) (hz.sublist sz) (fun e he => nx e (sx.subset he)) (fun e he => ny e (sy.subset he)) (fun e he => nz e (sz.subset he))
     have hgt : ∀ s ∈ sidesF f (tailP p x) (tailP p y) (tailP p z), Op.bytesLess p s.p = true := fun s hs => by
       obtain ⟨e, he, hpe⟩ := ih.mem s hs
       rw [<- hpe]
       rcases he with he | he | he
       · exact tailP_gt hx h2 e he
       · exact tailP_gt hy h3 e he
       · exact tailP_gt hz h4 e he
     have hne : ∀ s ∈ sidesF f (tailP p x) (tailP p y) (tailP p z), s.p ≠ p := fun s hs k => bl_ne (hgt s hs) k.symm
     refine ⟨List.pairwise_cons.2 ⟨hgt, ih.rise⟩, ?_, ?_, ?_, ?_, ?_, ?_⟩
     · intro s hs
       rcases List.mem_cons.1 hs with rfl | hs
       · exact c
       · exact ih.ne s hs
     · intro s hs
       rcases List.mem_cons.1 hs with rfl | hs
       · exact headP_look hx h2
       · rw [ih.a s hs, tailP_look (hne s hs)]
     · intro s hs
       rcases List.mem_cons.1 hs with rfl | hs
       · exact headP_look hy h3
       · rw [ih.b s hs, tailP_look (hne s hs)]
     · intro s hs
       rcases List.mem_cons.1 hs with rfl | hs
       · exact headP_look hz h4
       · rw [ih.c s hs, tailP_look (hne s hs)]
     · intro s hs
       rcases List.mem_cons.1 hs with rfl | hs
       · obtain ⟨e, he, hpe⟩ := h5 c
         exact ⟨e, he, hpe.symm⟩
       · obtain ⟨e, he, hpe⟩ := ih.mem s hs
         exact ⟨e, he.imp (fun h => sx.subset h) (Or.imp (fun h => sy.subset h) fun h => sz.subset h), hpe⟩
     · intro e he
       have tl : ∀ {w : List Ent}, Lo p w -> e ∈ w -> e.1 = p \/ e ∈ tailP p w := fun {w} hw hew => by
         by_cases k : e.1 = p
         · exact .inl k
         · right
           cases w with
           | nil => cases hew
           | cons d l =>
             rw [tailP]
             cases k2 : d.1 == p with
             | false => exact hew
             | true =>
               rcases List.mem_cons.1 hew with rfl | hew
               · exact absurd (beq_iff_eq.1 k2) k
               · exact hew
       have hh : e.1 = p \/ (e ∈ tailP p x \/ e ∈ tailP p y \/ e ∈ tailP p z) := by
         rcases he with he | he | he
         · exact (tl h2 he).imp id .inl
         · exact (tl h3 he).imp id fun h => .inr (.inl h)
         · exact (tl h4 he).imp id fun h => .inr (.inr h)
       rcases hh with hh | hh
       · exact ⟨_, List.mem_cons_self, hh.symm⟩
       · obtain ⟨s, hs, hp⟩ := ih.all e hh
         exact ⟨s, by simp [hs], hp⟩
structure Gd (x : List Ent) : Prop where
 rise : Rise x
 pne : Pne x
 rne : Rne x
 len : ∀ e ∈ x, e.1.length <= 24
 right : ∀ e ∈ x, right e.2 = true
theorem sidesP_spec {x y z : List Ent} (hx : Gd x) (hy : Gd y) (hz : Gd z) : SP x y z (sidesP x y z) :=
 sidesF_spec _ x y z (Nat.lt_succ_self _) hx.rise hy.rise hz.rise hx.pne hy.pne hz.pne
theorem Gd.nil : Gd [] := ⟨.nil, by simp, by simp, by simp, by simp⟩
mutual
theorem entT_len24 : ∀ (t : Nd) (n : Nat), okT t n = true -> ∀ e ∈ entT t, e.1.length <= n
 | .node s rs ks, n, h, e, he => by
   obtain ⟨g1, g2, g9003, g9004, g9005⟩ := okT_iff.1 h
   simp only [Nd.lab_node, Nd.rows_node, Nd.kids_node] at g2 g9005
   rw [entT] at he
   rcases List.mem_append.1 he with he | he
   · split at he
     · cases he
     · simp only [List.mem_singleton] at he; subst he; exact g2
   · obtain ⟨d, hd, rfl⟩ := List.mem_map.1 he
     have := entL_len24 ks _ g9005 d hd
     simp only [List.length_append]; omega
theorem entL_len24 : ∀ (l : List Nd) (n : Nat), kidsOk l n -> ∀ e ∈ entL l, e.1.length <= n
 | [], _, _, e, he => by simp [entL] at he
 | t :: r, n, h, e, he => by
   rw [entL] at he
   rcases List.mem_append.1 he with he | he
   · exact entT_len24 t n (h.1 t (by simp)) e he
   · exact entL_len24 r n (kidsOk_sub h (List.sublist_cons_self _ _)) e he
end
theorem gd_ent {t : Nd} (h : okR t = true) : Gd (entR t) :=
 have hk := (okR_iff.1 h).2.2
 ⟨entR_rise h, entL_ne_nil hk, entL_ne _, entL_len24 _ _ hk, entL_right _ _ hk⟩
theorem entP_R {t : Nd} (h : okR t = true) : entP t = entR t := by rw [entP, h]; rfl
theorem gd_entP (t : Nd) : Gd (entP t) := by
 rw [entP]
 cases h : okR t with
 | false => exact Gd.nil
 | true => exact gd_ent h
theorem getR_P (t : Nd) (q : Bys) : getR t q = look (entP t) q := by
 rw [getR_look, entP]
 cases okR t <;> rfl
def bad3 (a b c : List Row) : Bool := decide (b ≠ c /\ a ≠ c /\ a ≠ b)
def met3 (a b c : List Row) : List Row := if b = c \/ a = c then b else c
def badS (s : Sd) : Bool := bad3 s.a s.b s.c
def metS (s : Sd) : List Row := met3 s.a s.b s.c
def gM (s : Sd) : Option (List Row) := if badS s = true then none else some (metS s)
def nd0 : Nd := .node [] [] []
def putsF (g : Sd -> Option (List Row)) : Nd -> List Sd -> Nd
 | t, [] => t
 | t, s :: r => putsF g (match g s with | some l => putR t s.p l | none => t) r
end Go.Proofs.YtgaabjmbnomimaaGreatDoor
namespace Go.Proofs.YtgaabjmbnomimaaGreatDoor
open Go Go.Ev
-- cse
def s138 : CSpec := fun a h => match a, h with
 | [.agg [.c (.str s), .c (.sl 5 rn rt xs), .c (.sl 3 kn kt ys)], .c (.str q), .fn 178 []], [] => some ([], [.fn 176 [.ptr 1 0 0 0, .ptr 0 0 0 0, .ptr 2 0 0 0]], [.box [.c (.str s), .c (.sl 5 rn rt xs), .c (.sl 3 kn kt ys)], .box [.c (.str q)], .box [.fn 178 []]])
 | _, _ => none
noncomputable abbrev p176 : Par := par E sh (ctOf [(178, s178), (78, s78), (138, s138)]) 176 4 4
abbrev s176_0 (q : Bys) (s : Bys) (rn : OBo) (rt : Bool) (xs : LLC) (kn : OBo) (kt : Bool) (ys : LLC) (r : List (List V)) (b : Bool) (s5 : Bys) (i33 : Int) (i34 : Int) : Fr × Hp := ([(3, V.ptr 2 0 0 0), (4, V.ptr 4 0 0 0), (5, V.c (C.str s5)), (32, V.c (C.sl 3 kn kt ys)), (33, V.c (C.int IntKind.i64 i33)), (34, V.c (C.int IntKind.i64 i34))], [O.box [V.c (C.str q)], O.box [V.c (C.str s), V.c (C.sl 5 rn rt xs), V.c (C.sl 3 kn kt ys)], O.box [V.fn 178 []], O.yo r.tail b, O.box [V.yl 3]])
abbrev s176_0v (q : Bys) (s : Bys) (rn : OBo) (rt : Bool) (xs : LLC) (kn : OBo) (kt : Bool) (ys : LLC) (r : List (List V)) (b : Bool) (s5 : Bys) (i33 : Int) (i34 : Int) : Fr × Hp := ([(3, V.ptr 2 0 0 0), (4, V.ptr 4 0 0 0), (5, V.c (C.str s5)), (32, V.c (C.sl 3 kn kt ys)), (33, V.c (C.int IntKind.i64 i33)), (34, V.c (C.int IntKind.i64 i34))], [O.box [V.c (C.str q)], O.box [V.c (C.str s), V.c (C.sl 5 rn rt xs), V.c (C.sl 3 kn kt ys)], O.box [V.fn 178 []], O.yo r b, O.box [V.yl 3]])
noncomputable abbrev b176_0v : Code := loopAt (codeOf E (176)) 0
abbrev s176_0v_0 (q : Bys) (s : Bys) (rn : OBo) (rt : Bool) (xs : LLC) (kn : OBo) (kt : Bool) (ys : LLC) (r : List (List V)) (b : Bool) (s5 : Bys) (i33 : Int) (i34 : Int) (sh5 : Bys) (nlh5 : OBo) (th5 : Bool) (xsh5 : LLC) (nlh5_1 : OBo) (th5_1 : Bool) (xsh5_1 : LLC) : Fr × Hp := ([(3, V.ptr 2 0 0 0), (4, V.ptr 4 0 0 0), (5, V.c (C.str s5)), (32, V.c (C.sl 3 kn kt ys)), (33, V.c (C.int IntKind.i64 i33)), (34, V.c (C.int IntKind.i64 i34)), (41, V.fn 176 [V.ptr 6 0 0 0, V.ptr 5 0 0 0, V.ptr 7 0 0 0])], [O.box [V.c (C.str q)], O.box [V.c (C.str s), V.c (C.sl 5 rn rt xs), V.c (C.sl 3 kn kt ys)], O.box [V.fn 178 []], O.yo r b, O.box [V.yl 3], O.box [V.c (C.str sh5), V.c (C.sl 5 nlh5 th5 xsh5), V.c (C.sl 3 nlh5_1 th5_1 xsh5_1)], O.box [V.c (C.str s5)], O.box [V.fn 178 []]])
noncomputable abbrev b176_0v_0 : Code := loopAt b176_0v 0
abbrev g176_0v_0 (q : Bys) (s : Bys) (rn : OBo) (rt : Bool) (xs : LLC) (kn : OBo) (kt : Bool) (ys : LLC) (r : List (List V)) (b : Bool) (s5 : Bys) (i33 : Int) (i34 : Int) : Fr × Hp := ([(3, V.ptr 2 0 0 0), (4, V.ptr 4 0 0 0), (5, V.c (C.str s5)), (32, V.c (C.sl 3 kn kt ys)), (33, V.c (C.int IntKind.i64 i33)), (34, V.c (C.int IntKind.i64 i34)), (41, V.fn 176 [V.ptr 6 0 0 0, V.ptr 5 0 0 0, V.ptr 7 0 0 0])], [O.box [V.c (C.str q)], O.box [V.c (C.str s), V.c (C.sl 5 rn rt xs), V.c (C.sl 3 kn kt ys)], O.box [V.fn 178 []], O.yo r b, O.box [V.yl 3], O.gone, O.gone, O.gone])
abbrev x176_0v_0x0 (q : Bys) (s : Bys) (rn : OBo) (rt : Bool) (xs : LLC) (kn : OBo) (kt : Bool) (ys : LLC) (r : List (List V)) (b : Bool) (s5 : Bys) (i33 : Int) (i34 : Int) (p : Bys) (zs : LLC) (nlh8 : OBo) : Ex × Fr × Hp := (Ex.ret, [(3, V.ptr 2 0 0 0), (4, V.ptr 4 0 0 0), (5, V.c (C.str s5)), (32, V.c (C.sl 3 kn kt ys)), (33, V.c (C.int IntKind.i64 i33)), (34, V.c (C.int IntKind.i64 i34)), (41, V.fn 176 [V.ptr 6 0 0 0, V.ptr 5 0 0 0, V.ptr 7 0 0 0])], [O.box [V.c (C.str q)], O.box [V.c (C.str s), V.c (C.sl 5 rn rt xs), V.c (C.sl 3 kn kt ys)], O.box [V.fn 178 []], O.yo r.tail b, O.box [V.yl 3], O.gone, O.gone, O.gone, O.box [V.c (C.str p), V.c (C.sl 5 nlh8 false zs)]])
abbrev x176_0v_0n (q : Bys) (s : Bys) (rn : OBo) (rt : Bool) (xs : LLC) (kn : OBo) (kt : Bool) (ys : LLC) (r : List (List V)) (b : Bool) (s5 : Bys) (i33 : Int) (i34 : Int) : Ex × Fr × Hp := (Ex.nrm, [(3, V.ptr 2 0 0 0), (4, V.ptr 4 0 0 0), (5, V.c (C.str s5)), (32, V.c (C.sl 3 kn kt ys)), (33, V.c (C.int IntKind.i64 i33)), (34, V.c (C.int IntKind.i64 i34)), (41, V.fn 176 [V.ptr 6 0 0 0, V.ptr 5 0 0 0, V.ptr 7 0 0 0])], [O.box [V.c (C.str q)], O.box [V.c (C.str s), V.c (C.sl 5 rn rt xs), V.c (C.sl 3 kn kt ys)], O.box [V.fn 178 []], O.yo r b, O.box [V.yl 3], O.gone, O.gone, O.gone])
abbrev x176_0vx0 (q : Bys) (s : Bys) (rn : OBo) (rt : Bool) (xs : LLC) (kn : OBo) (kt : Bool) (ys : LLC) (r : List (List V)) (b : Bool) (s5 : Bys) (i33 : Int) (i34 : Int) (p : Bys) (zs : LLC) (nlh8 : OBo) : Ex × Fr × Hp := (Ex.ret, [(3, V.ptr 2 0 0 0), (4, V.ptr 4 0 0 0), (5, V.c (C.str s5)), (32, V.c (C.sl 3 kn kt ys)), (33, V.c (C.int IntKind.i64 i33)), (34, V.c (C.int IntKind.i64 i34)), (41, V.fn 176 [V.ptr 6 0 0 0, V.ptr 5 0 0 0, V.ptr 7 0 0 0])], [O.box [V.c (C.str q)], O.box [V.c (C.str s), V.c (C.sl 5 rn rt xs), V.c (C.sl 3 kn kt ys)], O.box [V.fn 178 []], O.yo r.tail b, O.box [V.yl 3], O.gone, O.gone, O.gone, O.box [V.c (C.str p), V.c (C.sl 5 nlh8 false zs)]])
abbrev x176_0vx1 (q : Bys) (s : Bys) (rn : OBo) (rt : Bool) (xs : LLC) (kn : OBo) (kt : Bool) (ys : LLC) (r : List (List V)) (b : Bool) (s5 : Bys) (i33 : Int) (i34 : Int) : Ex × Fr × Hp := (Ex.exit 0, [(3, V.ptr 2 0 0 0), (4, V.ptr 4 0 0 0), (5, V.c (C.str s5)), (32, V.c (C.sl 3 kn kt ys)), (33, V.c (C.int IntKind.i64 i33)), (34, V.c (C.int IntKind.i64 i34)), (35, V.c (C.bool false))], [O.box [V.c (C.str q)], O.box [V.c (C.str s), V.c (C.sl 5 rn rt xs), V.c (C.sl 3 kn kt ys)], O.box [V.fn 178 []], O.yo r b, O.box [V.yl 3]])
theorem t176_0v_0 (q : Bys) (s : Bys) (rn : OBo) (rt : Bool) (xs : LLC) (kn : OBo) (kt : Bool) (ys : LLC) (r : List (List V)) (b : Bool) (s5 : Bys) (i33 : Int) (i34 : Int) (p : Bys) (zs : LLC) : p176.rts b176_0v_0 ([V.agg [V.c (C.str p), V.c (C.sl 5 none false zs)]]) (g176_0v_0 q s rn rt xs kn kt ys r b s5 i33 i34) = (Tr.chk (yoHd r [V.agg [V.c (C.str p), V.c (C.sl 5 none false zs)]]) (Tr.br (!yoAns r b) (Tr.leaf (R.x (x176_0v_0x0 q s rn rt xs kn kt ys r b s5 i33 i34 p zs (none)))) (Tr.leaf (R.s (g176_0v_0 q s rn rt xs kn kt ys (r.tail) b s5 i33 i34))))) := by kernel_rfl
theorem k176_0v_0n (q : Bys) (s : Bys) (rn : OBo) (rt : Bool) (xs : LLC) (kn : OBo) (kt : Bool) (ys : LLC) (r : List (List V)) (b : Bool) (s5 : Bys) (i33 : Int) (i34 : Int) : p176.lkx b176_0v 0 (x176_0v_0n q s rn rt xs kn kt ys r b s5 i33 i34) = (Tr.leaf (R.s (s176_0v q s rn rt xs kn kt ys r b s5 i33 (IntKind.i64.wrap (i34 + 1))))) := by kernel_rfl
theorem k176_0v_0x0 (q : Bys) (s : Bys) (rn : OBo) (rt : Bool) (xs : LLC) (kn : OBo) (kt : Bool) (ys : LLC) (r : List (List V)) (b : Bool) (s5 : Bys) (i33 : Int) (i34 : Int) (p : Bys) (zs : LLC) (nlh8 : OBo) : p176.lkx b176_0v 0 (x176_0v_0x0 q s rn rt xs kn kt ys r b s5 i33 i34 p zs nlh8) = (Tr.leaf (R.x (x176_0vx0 q s rn rt xs kn kt ys r b s5 i33 i34 p zs nlh8))) := by kernel_rfl
theorem t176_0v (q : Bys) (s : Bys) (rn : OBo) (rt : Bool) (xs : LLC) (kn : OBo) (kt : Bool) (ys : LLC) (r : List (List V)) (b : Bool) (s5 : Bys) (i33 : Int) (i34 : Int) : p176.lts b176_0v (s176_0v q s rn rt xs kn kt ys r b s5 i33 i34) = (Tr.br (decide (i34 < i33)) (Tr.chk (decide (0 <= i34)) (Tr.chk true (Tr.chk (decide (i34.toNat < ys.length)) (Tr.chk (shOk [Sk.str, Sk.sl 5, Sk.sl 3] (ys.getD i34.toNat [])) (Tr.rs 0 (s176_0v_0 q s rn rt xs kn kt ys r b s5 i33 i34 (((ys.getD i34.toNat []).headD C.pnil).st) (none) false (((ys.getD i34.toNat []).tail.headD C.pnil).xs) (none) false (((ys.getD i34.toNat []).tail.tail.headD C.pnil).xs))))))) (Tr.leaf (R.x (x176_0vx1 q s rn rt xs kn kt ys r b s5 i33 i34)))) := by kernel_rfl
theorem k176_0vx0 (q : Bys) (s : Bys) (rn : OBo) (rt : Bool) (xs : LLC) (kn : OBo) (kt : Bool) (ys : LLC) (r : List (List V)) (b : Bool) (s5 : Bys) (i33 : Int) (i34 : Int) (p : Bys) (zs : LLC) (nlh8 : OBo) : p176.fkx 0 (x176_0vx0 q s rn rt xs kn kt ys r b s5 i33 i34 p zs nlh8) = (Tr.leaf (R.out [] [O.box [V.c (C.str q)], O.box [V.c (C.str s), V.c (C.sl 5 rn rt xs), V.c (C.sl 3 kn kt ys)], O.box [V.fn 178 []], O.yo r.tail b])) := by kernel_rfl
theorem k176_0vx1 (q : Bys) (s : Bys) (rn : OBo) (rt : Bool) (xs : LLC) (kn : OBo) (kt : Bool) (ys : LLC) (r : List (List V)) (b : Bool) (s5 : Bys) (i33 : Int) (i34 : Int) : p176.fkx 0 (x176_0vx1 q s rn rt xs kn kt ys r b s5 i33 i34) = (Tr.leaf (R.out [] [O.box [V.c (C.str q)], O.box [V.c (C.str s), V.c (C.sl 5 rn rt xs), V.c (C.sl 3 kn kt ys)], O.box [V.fn 178 []], O.yo r b])) := by kernel_rfl
theorem t176 (q : Bys) (s : Bys) (rn : OBo) (rt : Bool) (xs : LLC) (kn : OBo) (kt : Bool) (ys : LLC) (r : List (List V)) (b : Bool) : p176.ft ([V.yl 3, V.ptr 0 0 0 0, V.ptr 1 0 0 0, V.ptr 2 0 0 0]) ([O.box [V.c (C.str q)], O.box [V.c (C.str s), V.c (C.sl 5 rn rt xs), V.c (C.sl 3 kn kt ys)], O.box [V.fn 178 []], O.yo r b]) = (Tr.chk (decide (q.length + s.length < 4294967296)) (Tr.br false (Tr.leaf (R.out [] [O.box [V.c (C.str q)], O.box [V.c (C.str s), V.c (C.sl 5 rn rt xs), V.c (C.sl 3 kn kt ys)], O.box [V.fn 178 []], O.yo r b])) (Tr.br (decide (0 < (↑xs.length : Int))) (Tr.chk (decide (xs.length < 4294967296)) (Tr.chk (decide (rn ≠ some true \/ xs = [])) (Tr.chk (yoHd r [V.agg [V.c (C.str (q ++ s)), V.c (C.sl 5 none false xs)]]) (Tr.br (!yoAns r b) (Tr.leaf (R.out [] [O.box [V.c (C.str q)], O.box [V.c (C.str s), V.c (C.sl 5 rn rt xs), V.c (C.sl 3 kn kt ys)], O.box [V.fn 178 []], O.yo r.tail b])) (Tr.ls 0 (s176_0 q s rn rt xs kn kt ys r b (q ++ s) ((↑ys.length : Int)) (0))))))) (Tr.ls 0 (s176_0v q s rn rt xs kn kt ys r b (q ++ s) ((↑ys.length : Int)) (0)))))) := by kernel_rfl
end Go.Proofs.YtgaabjmbnomimaaGreatDoor
namespace Go.Proofs.YtgaabjmbnomimaaGreatDoor
open Go Go.Ev
theorem want_take {es u : List (List V)} {b : Bool} (hw : Want es u b) : ∃ m, u = es.take m /\ m <= es.length /\ (b = false -> m = es.length) /\ (b = true -> 1 <= m) := by
 rcases hw with ⟨h1, h2⟩ | ⟨h1, h2, h3⟩
 · exact ⟨es.length, by rw [List.take_length]; exact h2, Nat.le_refl _, fun _ => rfl, fun h => by rw [h1] at h; cases h⟩
 · exact ⟨u.length, List.prefix_iff_eq_take.1 h3, h3.length_le, fun h => (by rw [h1] at h; cases h), fun _ => List.length_pos_iff.2 h2⟩
def ownW (q : Bys) (rs : List Row) : List Ent := match rs with | [] => [] | r :: s => [(q, r :: s)]
theorem walkT_eq (al : List UInt8 -> Bool) (q s : Bys) (rs : List Row) (ks : List Nd) : walkT al q (.node s rs ks) = cond (al (q ++ s)) (ownW (q ++ s) rs ++ walkL al (q ++ s) ks) [] := by
 cases rs <;> simp [walkT, ownW]
theorem walkL_app (al : List UInt8 -> Bool) (q : Bys) (a b : List Nd) : walkL al q (a ++ b) = walkL al q a ++ walkL al q b := by
 induction a with
 | nil => rfl
 | cons t r ih => simp [walkL, ih]
theorem walkL_take (al : List UInt8 -> Bool) (q : Bys) {l : List Nd} {k : Nat} (hk : k < l.length) : walkL al q (l.take (k + 1)) = walkL al q (l.take k) ++ walkT al q l[k] := by
 rw [List.take_succ_eq_append_getElem hk, walkL_app]; simp [walkL]
theorem walkL_take_le (al : List UInt8 -> Bool) (q : Bys) (l : List Nd) (k : Nat) : (walkL al q (l.take k)).length <= (walkL al q l).length := by
 conv => rhs; rw [<- List.take_append_drop k l, walkL_app, List.length_append]
 omega
mutual
theorem eqb_refl : ∀ x : C, x.eqb x = true
 | .int .. | .bool _ | .str _ | .pnil | .inil | .fnil => by simp [C.eqb]
 | .sl z nl t xs => by simp [C.eqb, eqbLL_refl xs]
theorem eqbL_refl : ∀ l : List C, eqbL l l = true
 | [] => by simp [eqbL]
 | x :: r => by simp [eqbL, eqb_refl x, eqbL_refl r]
theorem eqbLL_refl : ∀ l : List (List C), eqbLL l l = true
 | [] => by simp [eqbLL]
 | x :: r => by simp [eqbLL, eqbL_refl x, eqbLL_refl r]
end
theorem eqb_encE (p : Bys) (rs : List Row) : eqbV [V.agg [V.c (C.str p), V.c (C.sl 5 none false (rows rs))]] (encE (p, rs)) = true := by
 simp [encE, eqbV, V.eqb, eqb_refl]
structure At (u : List (List V)) (b : Bool) (m c : Nat) (r : List (List V)) : Prop where
 eq : r = u.drop c
 le : c <= m
 lt : b = true -> c < m
theorem At.next {es : List (List V)} {u : List (List V)} {b : Bool} {m c : Nat} {r : List (List V)} (hu : u = es.take m) (hm : m <= es.length) (hb : b = false -> m = es.length) (h : At u b m c r) (hc : c < es.length) :
   c < m /\ r = es[c] :: u.drop (c + 1) /\ r.tail = u.drop (c + 1) /\ ((yoAns r b = true /\ At u b m (c + 1) r.tail) \/ (yoAns r b = false /\ r.tail = [] /\ b = true)) := by
 have hcm : c < m := by
   cases b with
   | false => have := hb rfl; omega
   | true => exact h.lt rfl
 have hul : u.length = m := by rw [hu, List.length_take]; omega
 have hcu : c < u.length := by omega
 have hd : r = es[c] :: u.drop (c + 1) := by
   rw [h.eq, List.drop_eq_getElem_cons hcu]
   congr 1
   simp only [hu, List.getElem_take]
 have ht : r.tail = u.drop (c + 1) := by rw [hd]; rfl
 refine ⟨hcm, hd, ht, ?_⟩
 unfold yoAns
 cases b with
 | false => exact .inl ⟨by simp, ht, by omega, fun h => by cases h⟩
 | true =>
   by_cases hlast : c + 1 = m
   · right
     have hnil : u.drop (c + 1) = [] := List.drop_of_length_le (by omega)
     rw [ht, hnil]
     exact ⟨by simp, rfl, rfl⟩
   · left
     have hne : (u.drop (c + 1)).isEmpty = false := by
       rw [List.isEmpty_eq_false_iff]
       intro h
       have := congrArg List.length h
       rw [List.length_drop] at this
       simp at this; omega
     rw [ht]
     exact ⟨by simp [hne], rfl, by omega, fun _ => by omega⟩
theorem At.end_ {es : List (List V)} {u : List (List V)} {b : Bool} {m c : Nat} {r : List (List V)} (hu : u = es.take m) (hm : m <= es.length) (h : At u b m c r) (hc : c = es.length) : r = [] /\ b = false := by
 have hbf : b = false := by
   cases b with
   | false => rfl
   | true => have := h.lt rfl; omega
 exact ⟨by rw [h.eq]; exact List.drop_of_length_le (by rw [hu, List.length_take]; omega), hbf⟩
theorem f138 (s : Bys) (rn : OBo) (rt : Bool) (xs : LLC) (kn : OBo) (kt : Bool) (ys : LLC) (q : Bys) : call E 138 [.agg [.c (.str s), .c (.sl 5 rn rt xs), .c (.sl 3 kn kt ys)], .c (.str q), .fn 178 []] [] =
   some ([.fn 176 [.ptr 1 0 0 0, .ptr 0 0 0 0, .ptr 2 0 0 0]], [.box [.c (.str s), .c (.sl 5 rn rt xs), .c (.sl 3 kn kt ys)], .box [.c (.str q)], .box [.fn 178 []]]) := by
 refine call_of (E := E) (sh := sh) (ct := ctOf []) (na := 3) (m := 0) ctOf_nil rfl rfl rfl rfl rfl rfl ?_
 rw [t138]; rfl
theorem s138_ok : CSpecOk E 138 s138 := by
 intro a h cs vals h' he hc
 unfold s138 at he
 split at he <;> simp only [Option.some.injEq, Prod.mk.injEq, reduceCtorEq] at he
 obtain ⟨rfl, rfl, rfl⟩ := he
 exact f138 _ _ _ _ _ _ _ _
def alA (_ : Bys) : Bool := true
def boxK (q s : Bys) (rn : OBo) (rt : Bool) (xs : LLC) (kn : OBo) (kt : Bool) (ys : LLC) : Hp := [.box [.c (.str q)], .box [.c (.str s), .c (.sl 5 rn rt xs), .c (.sl 3 kn kt ys)], .box [.fn 178 []]]
theorem sq176_ok (q s : Bys) (rn : OBo) (rt : Bool) (rs : List Row) (kn : OBo) (kt : Bool) (ks : List Nd) :
   E.seq 176 [.yl 3, .ptr 0 0 0 0, .ptr 1 0 0 0, .ptr 2 0 0 0] (boxK q s rn rt (rows rs) kn kt (encL ks)) = some ((walkT alA q (.node s rs ks)).map encE) := by
 have : sq 176 [.yl 3, .ptr 0 0 0 0, .ptr 1 0 0 0, .ptr 2 0 0 0] (boxK q s rn rt (rows rs) kn kt (encL ks)) = some ((walkT alA q (.node s rs ks)).map encE) := by
   simp only [sq, sq176, boxK, alongP, toRows_rows, decL_enc]; rfl
 exact this
def args166 : List V := [.yl 3, .ptr 0 0 0 0, .ptr 1 0 0 0, .ptr 2 0 0 0]
set_option maxHeartbeats 1000000 in
theorem f176 : ∀ (d : Nat) (q s : Bys) (rn : OBo) (rt : Bool) (rs : List Row) (kn : OBo) (kt : Bool) (ks : List Nd) (n : Nat), depL ks < d -> q.length + s.length + n <= 24 -> kidsOk ks n -> right rs = true -> (rn ≠ some true \/ rs = []) →
   ∀ (u : List (List V)) (b : Bool), Want ((walkT alA q (.node s rs ks)).map encE) u b →
   call E 176 args166 (boxK q s rn rt (rows rs) kn kt (encL ks) ++ [.yo u b]) = some ([], boxK q s rn rt (rows rs) kn kt (encL ks) ++ [.yo [] b])
 | 0, _, _, _, _, _, _, _, _, _, h, _, _, _, _, _, _, _ => by omega
 | d + 1, q, s, rn, rt, rs, kn, kt, ks, n, hd, hl, hk, hr, hn, u, b, hw => by
   have hct : (ctOf [(178, s178), (78, s78), (138, s138)]).ok E := ctOf_cons s178_ok (ctOf_cons s78_ok (ctOf_cons s138_ok ctOf_nil))
   refine call_of (E := E) (sh := sh) (ct := ctOf [(178, s178), (78, s78), (138, s138)]) (na := 4) (m := 4) hct rfl rfl rfl rfl rfl rfl ?_
   show p176.fd (p176.ft [.yl 3, .ptr 0 0 0 0, .ptr 1 0 0 0, .ptr 2 0 0 0] [.box [.c (.str q)], .box [.c (.str s), .c (.sl 5 rn rt (rows rs)), .c (.sl 3 kn kt (encL ks))], .box [.fn 178 []], .yo u b]) =
     some (.out [] [.box [.c (.str q)], .box [.c (.str s), .c (.sl 5 rn rt (rows rs)), .c (.sl 3 kn kt (encL ks))], .box [.fn 178 []], .yo [] b])
   rw [t176, encL_length]
   have hkl := okL_len (okL_iff'.2 hk) (by omega)
   have hrl := right_len4 hr
   have hn' : rn ≠ some true \/ rows rs = [] := hn.imp id fun h => by rw [h]; rfl
   rw [walkT_eq] at hw
   simp only [alA, cond_true] at hw
   obtain ⟨m, hu, hm0, hm1, hm2⟩ := want_take hw
   generalize hes : (ownW (q ++ s) rs ++ walkL alA (q ++ s) ks).map encE = es at *
   have hesl : es.length = (ownW (q ++ s) rs).length + (walkL alA (q ++ s) ks).length := by rw [<- hes]; simp
   have at0 : At u b m 0 u := ⟨rfl, Nat.zero_le _, fun h => hm2 h⟩
   -- the kids
   have key : ∀ r : List (List V), At u b m (ownW (q ++ s) rs).length r -> p176.fd (Tr.ls 0 (s176_0v q s rn rt (rows rs) kn kt (encL ks) r b (q ++ s) ks.length 0)) =
       some (.out [] [.box [.c (.str q)], .box [.c (.str s), .c (.sl 5 rn rt (rows rs)), .c (.sl 3 kn kt (encL ks))], .box [.fn 178 []], .yo [] b]) := by
     intro r hat
     refine fd_post hct (by kernel_rfl) rfl (list_post (p := p176) hct (b := b176_0v) ks.length (fun k (r : List (List V)) => s176_0v q s rn rt (rows rs) kn kt (encL ks) r b (q ++ s) ks.length k) (fun k r => At u b m ((ownW (q ++ s) rs).length + (walkL alA (q ++ s) (ks.take k)).length) r) _ ?_ ?_ 0 (Nat.zero_le _) r (by simpa [walkL] using hat))
     · intro k r hk2 hat
       have hT := hk.1 _ (List.getElem_mem hk2)
       obtain ⟨g1, g2, g9003, g9004, g9005⟩ := okT_iff.1 hT
       have hkid : depL ks[k].kids < d := by have := depL_kid (List.getElem_mem hk2); omega
       have hnx := walkL_take alA (q ++ s) hk2
       have hle := walkL_take_le alA (q ++ s) ks (k + 1)
       have hesk : ∀ j, (hj : j < (walkT alA (q ++ s) ks[k]).length) -> es[(ownW (q ++ s) rs).length + (walkL alA (q ++ s) (ks.take k)).length + j]? = some (encE (walkT alA (q ++ s) ks[k])[j]) := fun j hj => by
         rw [<- hes, List.getElem?_map, List.getElem?_append_right (by omega)]
         have e0 : walkL alA (q ++ s) ks = walkL alA (q ++ s) (ks.take (k + 1)) ++ walkL alA (q ++ s) (ks.drop (k + 1)) := by rw [<- walkL_app, List.take_append_drop]
         rw [e0, hnx, List.append_assoc, List.getElem?_append_right (by omega), List.getElem?_append_left (by omega)]
         have e1 : (ownW (q ++ s) rs).length + (walkL alA (q ++ s) (ks.take k)).length + j - (ownW (q ++ s) rs).length - (walkL alA (q ++ s) (ks.take k)).length = j := by omega
         rw [e1, List.getElem?_eq_getElem hj]; rfl
       rw [hnx, List.length_append] at hle
       have hin := ranges_post (p := p176) hct (c := b176_0v_0) (gi := 176) (caps := [.ptr 6 0 0 0, .ptr 5 0 0 0, .ptr 7 0 0 0]) (args := args166)
         (s0 := s176_0v_0 q s rn rt (rows rs) kn kt (encL ks) r b (q ++ s) ks.length k ks[k].lab none false (rows ks[k].rows) none false (encL ks[k].kids))
         (h0 := boxK (q ++ s) ks[k].lab none false (rows ks[k].rows) none false (encL ks[k].kids)) (ids := [6, 5, 7]) (by kernel_rfl) (walkT alA (q ++ s) ks[k]) encE rfl (by kernel_rfl)
         (by have := sq176_ok (q ++ s) ks[k].lab none false ks[k].rows none false ks[k].kids; rw [Nd.eta] at this; exact this)
         (fun u' b' hw' => ⟨_, _, f176 d (q ++ s) ks[k].lab none false ks[k].rows none false ks[k].kids (n - ks[k].lab.length) hkid (by rw [List.length_append]; omega) g9005 g9003 (.inl (by simp)) u' b' (by rw [Nd.eta]; exact hw'), rfl⟩)
         (fun (r : List (List V)) => g176_0v_0 q s rn rt (rows rs) kn kt (encL ks) r b (q ++ s) ks.length k)
         (fun (l : List Ent) r => ∃ j, l = (walkT alA (q ++ s) ks[k]).drop j /\ j <= (walkT alA (q ++ s) ks[k]).length /\ At u b m ((ownW (q ++ s) rs).length + (walkL alA (q ++ s) (ks.take k)).length + j) r)
         (fun y => (∃ r', At u b m ((ownW (q ++ s) rs).length + (walkL alA (q ++ s) (ks.take (k + 1))).length) r' /\ p176.ld b176_0v (p176.lkx b176_0v 0 y) = some (R.s (s176_0v q s rn rt (rows rs) kn kt (encL ks) r' b (q ++ s) ks.length ((k + 1 : Nat) : Int)))) ∨
           (∃ x : Ex × Fr × Hp, x.1 ≠ .nrm /\ p176.fd (p176.fkx 0 x) = some (.out [] [.box [.c (.str q)], .box [.c (.str s), .c (.sl 5 rn rt (rows rs)), .c (.sl 3 kn kt (encL ks))], .box [.fn 178 []], .yo [] b]) /\ p176.ld b176_0v (p176.lkx b176_0v 0 y) = some (R.x x)))
         (by
           rintro ⟨p, prs⟩ l r ⟨j, hj, hjl, hat⟩
           have hj2 : j < (walkT alA (q ++ s) ks[k]).length := by
             rcases Nat.lt_or_ge j (walkT alA (q ++ s) ks[k]).length with h | h
             · exact h
             · rw [List.drop_of_length_le h] at hj; cases hj
           rw [List.drop_eq_getElem_cons hj2] at hj
           simp only [List.cons.injEq] at hj
           obtain ⟨hj3, rfl⟩ := hj
           have hee := hesk j hj2
           rw [<- hj3] at hee
           obtain ⟨hc1, hc2⟩ := List.getElem?_eq_some_iff.1 hee
           obtain ⟨_, hr1, hr2, hr3⟩ := hat.next hu hm0 hm1 hc1
           rw [hc2] at hr1
           have hrd : p176.rds b176_0v_0 (g176_0v_0 q s rn rt (rows rs) kn kt (encL ks) r b (q ++ s) ks.length k) (p176.rts b176_0v_0 (encE (p, prs)) (g176_0v_0 q s rn rt (rows rs) kn kt (encL ks) r b (q ++ s) ks.length k)) =
               (if (!yoAns r b) = true then some (R.x (x176_0v_0x0 q s rn rt (rows rs) kn kt (encL ks) r b (q ++ s) ks.length k p (rows prs) none)) else some (R.s (g176_0v_0 q s rn rt (rows rs) kn kt (encL ks) r.tail b (q ++ s) ks.length k))) := by
             refine (congrArg _ (t176_0v_0 q s rn rt (rows rs) kn kt (encL ks) r b (q ++ s) ks.length k p (rows prs))).trans ?_
             have hyo : yoHd r [V.agg [V.c (C.str p), V.c (C.sl 5 none false (rows prs))]] = true := by rw [hr1]; exact eqb_encE p prs
             rw [rd_chk', if_pos hyo, rd_br, rd_leaf, rd_leaf]
           rcases hr3 with ⟨h1, h2⟩ | ⟨h1, h2, h3⟩
           · left
             refine ⟨r.tail, ⟨j + 1, rfl, by omega, ?_⟩, ?_⟩
             · rw [<- Nat.add_assoc]; exact h2
             · rw [hrd, h1]; rfl
           · right
             refine ⟨x176_0v_0x0 q s rn rt (rows rs) kn kt (encL ks) r b (q ++ s) ks.length k p (rows prs) none, by simp, .inr ⟨x176_0vx0 q s rn rt (rows rs) kn kt (encL ks) r b (q ++ s) ks.length k p (rows prs) none, by simp, ?_, ?_⟩, ?_⟩
             · rw [k176_0vx0, fd_leaf, h2]
             · rw [k176_0v_0x0, ld_leaf]
             · rw [hrd, h1]; rfl)
         (by
           rintro r ⟨j, hj, hjl, hat⟩
           have hj2 : j = (walkT alA (q ++ s) ks[k]).length := by
             rcases Nat.lt_or_ge j (walkT alA (q ++ s) ks[k]).length with h | h
             · rw [List.drop_eq_getElem_cons h] at hj; cases hj
             · omega
           subst hj2
           left
           refine ⟨r, by rw [hnx, List.length_append, <- Nat.add_assoc]; exact hat, ?_⟩
           show p176.ld b176_0v (p176.lkx b176_0v 0 (x176_0v_0n q s rn rt (rows rs) kn kt (encL ks) r b (q ++ s) ks.length k)) = _
           rw [k176_0v_0n, ld_leaf, wrap_succ (by omega)])
         r rfl ⟨0, by simp, Nat.zero_le _, by simpa using hat⟩
       rw [t176_0v]
       simp only [nd_ok, nd_lab, nd_rows, nd_kids, encL_length, isL_enc, decL_enc, wrap_hd, hd_pos, ld_br, ld_chk', ld_leaf, fd_br, fd_chk', fd_leaf, decide_true, decide_eq_true_eq, if_true, Int.toNat_natCast, Int.natCast_nonneg, Int.ofNat_lt, Int.ofNat_le, Bool.false_eq_true, if_false, bne_iff_ne, beq_iff_eq, ne_eq, not_true_eq_false, not_false_eq_true, Bool.not_eq_true', decide_eq_false_iff_not, reduceCtorEq, rows_length, er_ok, er_ok', dr_er, isRows_rows, toRows_rows, rows_take, rows_drop, rows_append, ints_length, isInts_ints, toInts_ints, ei_i, ei_ok, mk_headD, ints_take, ints_drop, ints_append, ints_snoc, ints_snoc', List.take_length, Nat.zero_add, Nat.le_refl, er_a, er_b, er_k, er_n, er_s, er_v, hk2, encL_getD hk2]
       obtain ⟨y, hy, hR⟩ := hin
       rcases hy with ⟨r', h1, h2⟩ | ⟨x, h1, h2, h3⟩
       · exact .inl ⟨r', h1, ld_rpost hct (by kernel_rfl) rfl ⟨y, h2, hR⟩⟩
       · exact .inr ⟨x, h1, h2, ld_rpost hct (by kernel_rfl) rfl ⟨y, h3, hR⟩⟩
     · intro r hat
       rw [List.take_length, <- hesl] at hat
       obtain ⟨rfl, rfl⟩ := hat.end_ hu hm0 rfl
       rw [t176_0v]
       exact ⟨x176_0vx1 q s rn rt (rows rs) kn kt (encL ks) [] false (q ++ s) ks.length ks.length, by simp, by rw [k176_0vx1, fd_leaf], by simp only [nd_ok, nd_lab, nd_rows, nd_kids, encL_length, isL_enc, decL_enc, wrap_hd, hd_pos, ld_br, ld_chk', ld_leaf, fd_br, fd_chk', fd_leaf, decide_true, decide_eq_true_eq, if_true, Int.toNat_natCast, Int.natCast_nonneg, Int.ofNat_lt, Int.ofNat_le, Bool.false_eq_true, if_false, bne_iff_ne, beq_iff_eq, ne_eq, not_true_eq_false, not_false_eq_true, Bool.not_eq_true', decide_eq_false_iff_not, reduceCtorEq, rows_length, er_ok, er_ok', dr_er, isRows_rows, toRows_rows, rows_take, rows_drop, rows_append, ints_length, isInts_ints, toInts_ints, ei_i, ei_ok, mk_headD, ints_take, ints_drop, ints_append, ints_snoc, ints_snoc', List.take_length, Nat.zero_add, Nat.le_refl, er_a, er_b, er_k, er_n, er_s, er_v, Int.lt_irrefl]⟩
   have hql : q.length + s.length < 4294967296 := by omega
   have hrl2 : rs.length < 4294967296 := by omega
   simp only [nd_ok, nd_lab, nd_rows, nd_kids, encL_length, isL_enc, decL_enc, wrap_hd, hd_pos, ld_br, ld_chk', ld_leaf, fd_br, fd_chk', fd_leaf, decide_true, decide_eq_true_eq, if_true, Int.toNat_natCast, Int.natCast_nonneg, Int.ofNat_lt, Int.ofNat_le, Bool.false_eq_true, if_false, bne_iff_ne, beq_iff_eq, ne_eq, not_true_eq_false, not_false_eq_true, Bool.not_eq_true', decide_eq_false_iff_not, reduceCtorEq, rows_length, er_ok, er_ok', dr_er, isRows_rows, toRows_rows, rows_take, rows_drop, rows_append, ints_length, isInts_ints, toInts_ints, ei_i, ei_ok, mk_headD, ints_take, ints_drop, ints_append, ints_snoc, ints_snoc', List.take_length, Nat.zero_add, Nat.le_refl, er_a, er_b, er_k, er_n, er_s, er_v, hql, hrl2]
   by_cases c : rs = []
   · subst c
     rw [if_neg (by simp)]
     exact key u at0
   · have c0 : (0 : Int) < rs.length := by have := List.length_pos_iff.2 c; omega
     obtain ⟨r0, rr, rfl⟩ : ∃ a r, rs = a :: r := by cases rs with | nil => exact absurd rfl c | cons a r => exact ⟨a, r, rfl⟩
     have ho : ownW (q ++ s) (r0 :: rr) = [(q ++ s, r0 :: rr)] := rfl
     have h0 : 0 < es.length := by rw [hesl, ho]; simp; omega
     have he0 : es[0] = encE (q ++ s, r0 :: rr) := by simp only [<- hes, ho]; rfl
     obtain ⟨_, hr1, hr2, hr3⟩ := at0.next hu hm0 hm1 h0
     rw [he0] at hr1
     have hyo : yoHd u [V.agg [V.c (C.str (q ++ s)), V.c (C.sl 5 none false (rows (r0 :: rr)))]] = true := by rw [hr1]; exact eqb_encE _ _
     rw [if_pos c0]
     simp only [hn', hyo, if_true]
     rcases hr3 with ⟨h1, h2⟩ | ⟨h1, h2, h3⟩
     · rw [if_neg (by simp [h1])]
       exact key u.tail (by rw [ho]; exact h2)
     · rw [if_pos (by simp [h1]), h2]
end Go.Proofs.YtgaabjmbnomimaaGreatDoor
namespace Go.Proofs.YtgaabjmbnomimaaGreatDoor
open Go Go.Ev
-- cse
noncomputable abbrev p80 : Par := par E sh (ctOf [(48, s48), (138, s138), (178, s178)]) 80 3 0
abbrev s80_0 (s : Bys) (rn : OBo) (rt : Bool) (xs : LLC) (kn : OBo) (kt : Bool) (ys : LLC) (nl6 : OBo) (t6 : Bool) (xs6 : LLC) (ys1 : LLC) (nh2 : Nat) (sh4 : Bys) : Fr × Hp := ([(5, V.ptr 0 0 0 0), (6, V.c (C.sl 2 nl6 t6 xs6)), (7, V.ptr 2 0 0 0), (14, V.fn 176 [V.ptr 4 0 0 0, V.ptr 3 0 0 0, V.ptr 5 0 0 0])], [O.box [V.fn 178 []], O.mem 2 0 ys1, O.box [V.buf 1 0 0 nh2], O.box [V.c (C.str s), V.c (C.sl 5 rn rt xs), V.c (C.sl 3 kn kt ys)], O.box [V.c (C.str sh4)], O.box [V.fn 178 []]])
noncomputable abbrev b80_0 : Code := loopAt (codeOf E (80)) 0
abbrev g80_0 (nl6 : OBo) (t6 : Bool) (xs6 : LLC) (ys1 : LLC) (nh2 : Nat) : Fr × Hp := ([(5, V.ptr 0 0 0 0), (6, V.c (C.sl 2 nl6 t6 xs6)), (7, V.ptr 2 0 0 0), (14, V.fn 176 [V.ptr 4 0 0 0, V.ptr 3 0 0 0, V.ptr 5 0 0 0])], [O.box [V.fn 178 []], O.mem 2 0 ys1, O.box [V.buf 1 0 0 nh2], O.gone, O.gone, O.gone])
abbrev x80_0n (nl6 : OBo) (t6 : Bool) (xs6 : LLC) (ys1 : LLC) (nh2 : Nat) : Ex × Fr × Hp := (Ex.nrm, [(5, V.ptr 0 0 0 0), (6, V.c (C.sl 2 nl6 t6 xs6)), (7, V.ptr 2 0 0 0), (14, V.fn 176 [V.ptr 4 0 0 0, V.ptr 3 0 0 0, V.ptr 5 0 0 0])], [O.box [V.fn 178 []], O.mem 2 0 ys1, O.box [V.buf 1 0 0 nh2], O.gone, O.gone, O.gone])
theorem t80_0 (nl6 : OBo) (t6 : Bool) (xs6 : LLC) (ys1 : LLC) (nh2 : Nat) (p : Bys) (zs : LLC) : p80.rts b80_0 ([V.agg [V.c (C.str p), V.c (C.sl 5 none false zs)]]) (g80_0 nl6 t6 xs6 ys1 nh2) = (Tr.br true (Tr.chk true (Tr.chk true (Tr.chk (decide (nh2 + 1 < 4294967296)) (Tr.chk true (Tr.leaf (R.s (g80_0 nl6 t6 xs6 (List.take nh2 ys1 ++ [[C.str p, C.sl 5 none false zs]]) (nh2 + 1)))))))) (Tr.leaf (R.s (g80_0 nl6 t6 xs6 ys1 nh2)))) := by kernel_rfl
theorem k80_0n (nl6 : OBo) (t6 : Bool) (xs6 : LLC) (ys1 : LLC) (nh2 : Nat) : p80.fkx 0 (x80_0n nl6 t6 xs6 ys1 nh2) = (Tr.leaf (R.out [V.c (C.sl 2 none false (List.take nh2 ys1))] [])) := by kernel_rfl
theorem t80 (s : Bys) (rn : OBo) (rt : Bool) (xs : LLC) (kn : OBo) (kt : Bool) (ys : LLC) : p80.ft ([V.agg [V.c (C.str s), V.c (C.sl 5 rn rt xs), V.c (C.sl 3 kn kt ys)], V.fn 178 [], V.fn 178 []]) ([]) = (Tr.chk (isRows xs) (Tr.chk (isL ys) (Tr.br (checkT (Nd.node s (toRows xs) (decL ys)) != 0) (Tr.leaf (R.out [V.c (C.sl 2 none false [])] [])) (Tr.rs 0 (s80_0 s rn rt xs kn kt ys (some true) true ([]) ([]) (0) ([])))))) := by kernel_rfl
def s80 : CSpec := fun a h => match a, h with
 | [.agg [.c (.str s), .c (.sl 5 rn rt xs), .c (.sl 3 kn kt ys)], .fn 178 [], .fn 178 []], [] => some ([isRows xs, isL ys, decide ((entL (decL ys)).length < 1000000000)], [.c (.sl 2 none false (ents (entP (.node s (toRows xs) (decL ys)))))], [])
 | _, _ => none
noncomputable abbrev p144 : Par := par E sh (ctOf [(80, s80)]) 144 1 0
theorem t144 (s : Bys) (rn : OBo) (rt : Bool) (xs : LLC) (kn : OBo) (kt : Bool) (ys : LLC) : p144.ft ([V.agg [V.c (C.str s), V.c (C.sl 5 rn rt xs), V.c (C.sl 3 kn kt ys)]]) ([]) = (Tr.chk (isRows xs) (Tr.chk (isL ys) (Tr.chk (decide ((entL (decL ys)).length < 1000000000)) (Tr.leaf (R.out [V.c (C.sl 2 none false (ents (entP (Nd.node s (toRows xs) (decL ys)))))] []))))) := by kernel_rfl
end Go.Proofs.YtgaabjmbnomimaaGreatDoor
namespace Go.Proofs.YtgaabjmbnomimaaGreatDoor
open Go Go.Ev
theorem ownW_E (q : Bys) (rs : List Row) : ownW q rs = ownE q rs := by
 unfold ownE; cases rs <;> simp [ownW]
mutual
theorem walkT_all : ∀ (q : Bys) (t : Nd), walkT alA q t = pre q (entT t)
 | q, .node s rs ks => by
   rw [walkT_eq, entT_node, <- ownW_E, <- walkL_all (q ++ s) ks]; rfl
theorem walkL_all : ∀ (q : Bys) (l : List Nd), walkL alA q l = pre q (entL l)
 | q, [] => rfl
 | q, t :: r => by rw [walkL, entL, pre_app, walkT_all q t, walkL_all q r]
end
theorem walk_root (ks : List Nd) : walkT alA [] (.node [] [] ks) = entL ks := by
 rw [walkT_all, entT_node, List.nil_append, pre_nil]; rfl
theorem ents_take (l : List Ent) (n : Nat) (h : n = l.length) : List.take n (ents l) = ents l := by rw [h, <- ents_length, List.take_length]
theorem entP_node (s : Bys) (rs : List Row) (ks : List Nd) : entP (.node s rs ks) = cond (okR (.node s rs ks)) (entL ks) [] := rfl
theorem ents_snoc (l : List Ent) (p : Bys) (rs : List Row) : ents l ++ [[C.str p, C.sl 5 none false (rows rs)]] = ents (l ++ [(p, rs)]) := by simp [ents, ee]
theorem f80 (s : Bys) (rn : OBo) (rt : Bool) (rs : List Row) (kn : OBo) (kt : Bool) (ks : List Nd) (hn : (entL ks).length < 1000000000) :
   call E 80 [.agg [.c (.str s), .c (.sl 5 rn rt (rows rs)), .c (.sl 3 kn kt (encL ks))], .fn 178 [], .fn 178 []] [] = some ([.c (.sl 2 none false (ents (entP (.node s rs ks))))], []) := by
 have hct : (ctOf [(48, s48), (138, s138), (178, s178)]).ok E := ctOf_cons s48_ok (ctOf_cons s138_ok (ctOf_cons s178_ok ctOf_nil))
 refine call_of (E := E) (sh := sh) (ct := ctOf [(48, s48), (138, s138), (178, s178)]) (na := 3) (m := 0) hct rfl rfl rfl rfl rfl rfl ?_
 rw [t80]
 simp only [nd_ok, nd_lab, nd_rows, nd_kids, encL_length, isL_enc, decL_enc, wrap_hd, hd_pos, ld_br, ld_chk', ld_leaf, fd_br, fd_chk', fd_leaf, decide_true, decide_eq_true_eq, if_true, Int.toNat_natCast, Int.natCast_nonneg, Int.ofNat_lt, Int.ofNat_le, Bool.false_eq_true, if_false, bne_iff_ne, beq_iff_eq, ne_eq, not_true_eq_false, not_false_eq_true, Bool.not_eq_true', decide_eq_false_iff_not, reduceCtorEq, rows_length, er_ok, er_ok', dr_er, isRows_rows, toRows_rows, rows_take, rows_drop, rows_append, ints_length, isInts_ints, toInts_ints, ei_i, ei_ok, mk_headD, ints_take, ints_drop, ints_append, ints_snoc, ints_snoc', List.take_length, Nat.zero_add, Nat.le_refl, er_a, er_b, er_k, er_n, er_s, er_v, checkT_ne]
 rw [entP_node]
 cases c1 : okR (.node s rs ks) with
 | false => rfl
 | true =>
   have c1' := okR_iff.1 c1
   simp only [Nd.lab_node, Nd.rows_node, Nd.kids_node] at c1'
   obtain ⟨rfl, rfl, hk⟩ := c1'
   simp only [Bool.not_true, Bool.false_eq_true, if_false, cond_true]
   refine fd_rpost hct (by kernel_rfl) rfl (ranges_post (p := p80) hct (c := b80_0) (gi := 176) (caps := [.ptr 4 0 0 0, .ptr 3 0 0 0, .ptr 5 0 0 0]) (args := args166)
     (h0 := boxK [] [] rn rt (rows []) kn kt (encL ks)) (ids := [4, 3, 5]) (by kernel_rfl) (entL ks) encE rfl (by kernel_rfl)
     (by have := sq176_ok [] [] rn rt [] kn kt ks; rw [walk_root] at this; exact this)
     (fun u b hw => ⟨_, _, f176 (depL ks + 1) [] [] rn rt [] kn kt ks 24 (Nat.lt_succ_self _) (by simp) hk rfl (.inr rfl) u b (by rw [walk_root]; exact hw), rfl⟩)
     (fun (acc : List Ent) => g80_0 (some true) true [] (ents acc) acc.length) (fun l acc => acc ++ l = entL ks) _ ?_ ?_ [] rfl rfl)
   · rintro ⟨p, prs⟩ l acc hi
     left
     have hlen : acc.length + 1 < 4294967296 := by
       have := congrArg List.length hi
       simp only [List.length_append, List.length_cons] at this; omega
     refine ⟨acc ++ [(p, prs)], by rw [<- hi]; simp, ?_⟩
     refine (congrArg _ (t80_0 (some true) true [] (ents acc) acc.length p (rows prs))).trans ?_
     simp only [rd_br, rd_chk', rd_leaf, if_true, hlen, decide_true, ents_take acc acc.length rfl, ents_snoc, List.length_append, List.length_singleton]
   · intro acc hi
     rw [List.append_nil] at hi
     subst hi
     show p80.fd (p80.fkx 0 (x80_0n (some true) true [] (ents (entL ks)) (entL ks).length)) = _
     rw [k80_0n, fd_leaf, ents_take _ _ rfl]
theorem s80_ok : CSpecOk E 80 s80 := by
 intro a h cs vals h' he hc
 unfold s80 at he
 split at he <;> simp only [Option.some.injEq, Prod.mk.injEq, reduceCtorEq] at he
 rename_i s rn rt xs kn kt ys
 obtain ⟨rfl, rfl, rfl⟩ := he
 simp only [allT, Bool.and_true, Bool.and_eq_true, decide_eq_true_eq] at hc
 obtain ⟨h1, h2, h3⟩ := hc
 obtain ⟨rs, rfl⟩ := rows_ex h1
 obtain ⟨ks, rfl⟩ := isL_ex h2
 simp only [toRows_rows, decL_enc] at *
 exact f80 s rn rt rs kn kt ks h3
theorem f144 (s : Bys) (rn : OBo) (rt : Bool) (rs : List Row) (kn : OBo) (kt : Bool) (ks : List Nd) (hn : (entL ks).length < 1000000000) :
   call E 144 [.agg [.c (.str s), .c (.sl 5 rn rt (rows rs)), .c (.sl 3 kn kt (encL ks))]] [] = some ([.c (.sl 2 none false (ents (entP (.node s rs ks))))], []) := by
 refine call_of (E := E) (sh := sh) (ct := ctOf [(80, s80)]) (na := 1) (m := 0) (ctOf_cons s80_ok ctOf_nil) rfl rfl rfl rfl rfl rfl ?_
 rw [t144]
 simp only [nd_ok, nd_lab, nd_rows, nd_kids, encL_length, isL_enc, decL_enc, wrap_hd, hd_pos, ld_br, ld_chk', ld_leaf, fd_br, fd_chk', fd_leaf, decide_true, decide_eq_true_eq, if_true, Int.toNat_natCast, Int.natCast_nonneg, Int.ofNat_lt, Int.ofNat_le, Bool.false_eq_true, if_false, bne_iff_ne, beq_iff_eq, ne_eq, not_true_eq_false, not_false_eq_true, Bool.not_eq_true', decide_eq_false_iff_not, reduceCtorEq, rows_length, er_ok, er_ok', dr_er, isRows_rows, toRows_rows, rows_take, rows_drop, rows_append, ints_length, isInts_ints, toInts_ints, ei_i, ei_ok, mk_headD, ints_take, ints_drop, ints_append, ints_snoc, ints_snoc', List.take_length, Nat.zero_add, Nat.le_refl, er_a, er_b, er_k, er_n, er_s, er_v, hn]
def s144 : CSpec := fun a h => match a, h with
 | [.agg [.c (.str s), .c (.sl 5 rn rt xs), .c (.sl 3 kn kt ys)]], [] => some ([isRows xs, isL ys, decide ((entL (decL ys)).length < 1000000000)], [.c (.sl 2 none false (ents (entP (.node s (toRows xs) (decL ys)))))], [])
 | _, _ => none
theorem s144_ok : CSpecOk E 144 s144 := by
 intro a h cs vals h' he hc
 unfold s144 at he
 split at he <;> simp only [Option.some.injEq, Prod.mk.injEq, reduceCtorEq] at he
 rename_i s rn rt xs kn kt ys
 obtain ⟨rfl, rfl, rfl⟩ := he
 simp only [allT, Bool.and_true, Bool.and_eq_true, decide_eq_true_eq] at hc
 obtain ⟨h1, h2, h3⟩ := hc
 obtain ⟨rs, rfl⟩ := rows_ex h1
 obtain ⟨ks, rfl⟩ := isL_ex h2
 simp only [toRows_rows, decL_enc] at *
 exact f144 s rn rt rs kn kt ks h3
end Go.Proofs.YtgaabjmbnomimaaGreatDoor
namespace Go.Proofs.YtgaabjmbnomimaaGreatDoor
open Go Go.Ev
section
variable (al w : List UInt8 -> Bool) (hw : ∀ s q, w (s ++ q) = true -> al s = true)
include hw
end
def wB (fr to_ : Bys) (q : Bys) : Bool := !Op.bytesLess q fr && (match to_ with | [] => true | _ :: _ => Op.bytesLess q to_)
theorem parts {l : List Ent} (hr : Rise l) {a b c : List UInt8} (h1 : Op.bytesLess b a = false) (h2 : Op.bytesLess c b = false) (hb : b ≠ []) (hc : c ≠ []) :
   l.filter (fun e => wB a b e.1) ++ l.filter (fun e => wB b c e.1) = l.filter (fun e => wB a c e.1) := by
 have eb : ∀ {x y q : List UInt8}, y ≠ [] -> wB x y q = (!Op.bytesLess q x && Op.bytesLess q y) := fun {x y q} h => by
   cases y with | nil => exact absurd rfl h | cons d r => rfl
 induction l with
 | nil => rfl
 | cons e l ih =>
   rw [Rise, List.pairwise_cons] at hr
   have ih := ih hr.2
   simp only [List.filter_cons, eb hb, eb hc] at ih ⊢
   cases hq : Op.bytesLess e.1 b with
   | true =>
     have hqc : Op.bytesLess e.1 c = true := by
       cases k : Op.bytesLess e.1 c with
       | true => rfl
       | false => rw [bl_ge k h2] at hq; cases hq
     simp only [hqc, Bool.and_true, Bool.not_true, Bool.false_and, Bool.false_eq_true, if_false]
     split
     · rw [List.cons_append, ih]
     · exact ih
   | false =>
     have hqa : Op.bytesLess e.1 a = false := bl_ge hq h1
     have hnone : l.filter (fun e => (!Op.bytesLess e.1 a && Op.bytesLess e.1 b)) = [] := by
       rw [List.filter_eq_nil_iff]
       intro d hd k
       simp only [Bool.and_eq_true] at k
       have h3 := bl_trans (hr.1 d hd) k.2
       rw [hq] at h3; cases h3
     rw [hnone, List.nil_append] at ih
     simp only [hqa, Bool.and_false, Bool.not_false, Bool.true_and, Bool.false_eq_true, if_false]
     rw [hnone, List.nil_append]
     split
     · rw [ih]
     · exact ih
end Go.Proofs.YtgaabjmbnomimaaGreatDoor
namespace Go.Proofs.YtgaabjmbnomimaaGreatDoor
open Go Go.Ev
-- cse
end Go.Proofs.YtgaabjmbnomimaaGreatDoor
namespace Go.Proofs.YtgaabjmbnomimaaGreatDoor
open Go Go.Ev
-- cse
end Go.Proofs.YtgaabjmbnomimaaGreatDoor
namespace Go.Proofs.YtgaabjmbnomimaaGreatDoor
open Go Go.Ev
def s30 : CSpec := fun a h => match a, h with
 | [.agg [.c (.str s), .c (.sl 5 rn rt xs), .c (.sl 3 kn kt ys)], .c (.str pf)], [] => some ([isRows xs, isL ys, decide ((entL (decL ys)).length < 1000000000)], [.c (.sl 2 none false (ents ((entP (.node s (toRows xs) (decL ys))).filter (fun e => begins e.1 pf))))], [])
 | _, _ => none
def s32 : CSpec := fun a h => match a, h with
 | [.agg [.c (.str s), .c (.sl 5 rn rt xs), .c (.sl 3 kn kt ys)], .c (.str pf), .c (.str pt)], [] => some ([isRows xs, isL ys, decide ((entL (decL ys)).length < 1000000000)], [.c (.sl 2 none false (ents ((entP (.node s (toRows xs) (decL ys))).filter (fun e => wB pf pt e.1))))], [])
 | _, _ => none
end Go.Proofs.YtgaabjmbnomimaaGreatDoor
namespace Go.Proofs.YtgaabjmbnomimaaGreatDoor
open Go Go.Ev
-- cse
def s26 : CSpec := fun a h => match a, h with
 | [.c (.sl 5 nl tt xs), .c (.sl 5 nl2 t2 ys)], [] => some ([isRows xs, isRows ys, decide (xs.length <= 9223372036854775807)], [V.b (decide (toRows xs = toRows ys))], [])
 | _, _ => none
noncomputable abbrev p91 : Par := par E sh (ctOf []) 91 2 0
abbrev s91_0 (nl : OBo) (tt : Bool) (xs : LLC) (nl2 : OBo) (t2 : Bool) (ys : LLC) (i12 : Int) (i13 : Int) : Fr × Hp := ([(0, V.c (C.sl 5 nl tt xs)), (1, V.c (C.sl 5 nl2 t2 ys)), (12, V.c (C.int IntKind.i64 i12)), (13, V.c (C.int IntKind.i64 i13))], [])
noncomputable abbrev b91_0 : Code := loopAt (codeOf E (91)) 0
abbrev x91_0x0 : Ex × Fr × Hp := (Ex.ret, [(4, V.c (C.bool false))], [])
abbrev x91_0x1 (nl : OBo) (tt : Bool) (xs : LLC) (nl2 : OBo) (t2 : Bool) (ys : LLC) (i12 : Int) (i13 : Int) : Ex × Fr × Hp := (Ex.exit 0, [(0, V.c (C.sl 5 nl tt xs)), (1, V.c (C.sl 5 nl2 t2 ys)), (12, V.c (C.int IntKind.i64 i12)), (13, V.c (C.int IntKind.i64 i13)), (14, V.c (C.bool false))], [])
theorem t91_0 (nl : OBo) (tt : Bool) (xs : LLC) (nl2 : OBo) (t2 : Bool) (ys : LLC) (i12 : Int) (i13 : Int) : p91.lts b91_0 (s91_0 nl tt xs nl2 t2 ys i12 i13) = (Tr.br (decide (i13 < i12)) (Tr.chk (decide (0 <= i13)) (Tr.chk true (Tr.chk (decide (i13.toNat < xs.length)) (Tr.chk (shOk [Sk.int IntKind.i64, Sk.int IntKind.i64, Sk.int IntKind.i64, Sk.int IntKind.i64, Sk.str] (xs.getD i13.toNat [])) (Tr.chk (decide (0 <= i13)) (Tr.chk true (Tr.chk (decide (i13.toNat < ys.length)) (Tr.chk (shOk [Sk.int IntKind.i64, Sk.int IntKind.i64, Sk.int IntKind.i64, Sk.int IntKind.i64, Sk.str] (ys.getD i13.toNat [])) (Tr.br (!(((xs.getD i13.toNat []).headD C.pnil).i == ((ys.getD i13.toNat []).headD C.pnil).i && (((xs.getD i13.toNat []).tail.headD C.pnil).i == ((ys.getD i13.toNat []).tail.headD C.pnil).i && (((xs.getD i13.toNat []).tail.tail.headD C.pnil).i == ((ys.getD i13.toNat []).tail.tail.headD C.pnil).i && (((xs.getD i13.toNat []).tail.tail.tail.headD C.pnil).i == ((ys.getD i13.toNat []).tail.tail.tail.headD C.pnil).i && (((xs.getD i13.toNat []).tail.tail.tail.tail.headD C.pnil).st == ((ys.getD i13.toNat []).tail.tail.tail.tail.headD C.pnil).st && true)))))) (Tr.leaf (R.x x91_0x0)) (Tr.leaf (R.s (s91_0 nl tt xs nl2 t2 ys i12 (IntKind.i64.wrap (i13 + 1)))))))))))))) (Tr.leaf (R.x (x91_0x1 nl tt xs nl2 t2 ys i12 i13)))) := by kernel_rfl
theorem k91_0x0 : p91.fkx 0 x91_0x0 = (Tr.leaf (R.out [V.c (C.bool false)] [])) := by kernel_rfl
theorem k91_0x1 (nl : OBo) (tt : Bool) (xs : LLC) (nl2 : OBo) (t2 : Bool) (ys : LLC) (i12 : Int) (i13 : Int) : p91.fkx 0 (x91_0x1 nl tt xs nl2 t2 ys i12 i13) = (Tr.leaf (R.out [V.c (C.bool true)] [])) := by kernel_rfl
theorem t91 (nl : OBo) (tt : Bool) (xs : LLC) (nl2 : OBo) (t2 : Bool) (ys : LLC) : p91.ft ([V.c (C.sl 5 nl tt xs), V.c (C.sl 5 nl2 t2 ys)]) ([]) = (Tr.br ((↑xs.length : Int) != (↑ys.length : Int)) (Tr.leaf (R.out [V.c (C.bool false)] [])) (Tr.ls 0 (s91_0 nl tt xs nl2 t2 ys ((↑xs.length : Int)) (0)))) := by kernel_rfl
mutual
def sameT : Nd -> Nd -> Bool
 | .node a r k, .node b s l => decide (a = b) && decide (r = s) && sameL k l
def sameL : List Nd -> List Nd -> Bool
 | [], [] => true
 | x :: p, y :: q => sameT x y && sameL p q
 | _, _ => false
end
variable (dd : Nat)
def s14 : CSpec := fun a h => match a, h with
 | [.agg [.c (.str s), .c (.sl 5 rn rt xs), .c (.sl 3 kn kt ys)], .agg [.c (.str s2), .c (.sl 5 rn2 rt2 xs2), .c (.sl 3 kn2 kt2 ys2)]], [] => some ([isRows xs, isL ys, isRows xs2, isL ys2, decide (depL (decL ys) < dd), lensT (.node s (toRows xs) (decL ys))], [V.b (sameT (.node s (toRows xs) (decL ys)) (.node s2 (toRows xs2) (decL ys2)))], [])
 | _, _ => none
noncomputable abbrev p14 : Par := par E sh (ctOf [(26, s26), (14, s14 dd)]) 14 2 0
abbrev s14_0 (s : Bys) (rn : OBo) (rt : Bool) (xs : LLC) (kn : OBo) (kt : Bool) (ys : LLC) (s2 : Bys) (rn2 : OBo) (rt2 : Bool) (xs2 : LLC) (kn2 : OBo) (kt2 : Bool) (ys2 : LLC) (i5 : Int) : Fr × Hp := ([(2, V.ptr 0 0 0 0), (3, V.ptr 1 0 0 0), (5, V.c (C.int IntKind.i64 i5))], [O.box [V.c (C.str s), V.c (C.sl 5 rn rt xs), V.c (C.sl 3 kn kt ys)], O.box [V.c (C.str s2), V.c (C.sl 5 rn2 rt2 xs2), V.c (C.sl 3 kn2 kt2 ys2)]])
noncomputable abbrev b14_0 : Code := loopAt (codeOf E (14)) 0
abbrev x14_0x0 (s : Bys) (rn : OBo) (rt : Bool) (xs : LLC) (kn : OBo) (kt : Bool) (ys : LLC) (s2 : Bys) (rn2 : OBo) (rt2 : Bool) (xs2 : LLC) (kn2 : OBo) (kt2 : Bool) (ys2 : LLC) : Ex × Fr × Hp := (Ex.ret, [(4, V.c (C.bool false))], [O.box [V.c (C.str s), V.c (C.sl 5 rn rt xs), V.c (C.sl 3 kn kt ys)], O.box [V.c (C.str s2), V.c (C.sl 5 rn2 rt2 xs2), V.c (C.sl 3 kn2 kt2 ys2)]])
abbrev x14_0x1 (s : Bys) (rn : OBo) (rt : Bool) (xs : LLC) (kn : OBo) (kt : Bool) (ys : LLC) (s2 : Bys) (rn2 : OBo) (rt2 : Bool) (xs2 : LLC) (kn2 : OBo) (kt2 : Bool) (ys2 : LLC) (i5 : Int) : Ex × Fr × Hp := (Ex.exit 0, [(2, V.ptr 0 0 0 0), (3, V.ptr 1 0 0 0), (5, V.c (C.int IntKind.i64 i5)), (32, V.c (C.bool false))], [O.box [V.c (C.str s), V.c (C.sl 5 rn rt xs), V.c (C.sl 3 kn kt ys)], O.box [V.c (C.str s2), V.c (C.sl 5 rn2 rt2 xs2), V.c (C.sl 3 kn2 kt2 ys2)]])
theorem t14_0 (s : Bys) (rn : OBo) (rt : Bool) (xs : LLC) (kn : OBo) (kt : Bool) (ys : LLC) (s2 : Bys) (rn2 : OBo) (rt2 : Bool) (xs2 : LLC) (kn2 : OBo) (kt2 : Bool) (ys2 : LLC) (i5 : Int) : (p14 dd).lts b14_0 (s14_0 s rn rt xs kn kt ys s2 rn2 rt2 xs2 kn2 kt2 ys2 i5) = (Tr.br (decide (i5 < (↑ys.length : Int))) (Tr.chk (decide (0 <= i5)) (Tr.chk true (Tr.chk (decide (i5.toNat < ys.length)) (Tr.chk (shOk [Sk.str, Sk.sl 5, Sk.sl 3] (ys.getD i5.toNat [])) (Tr.chk (decide (0 <= i5)) (Tr.chk true (Tr.chk (decide (i5.toNat < ys2.length)) (Tr.chk (shOk [Sk.str, Sk.sl 5, Sk.sl 3] (ys2.getD i5.toNat [])) (Tr.chk (isRows ((ys.getD i5.toNat []).tail.headD C.pnil).xs) (Tr.chk (isL ((ys.getD i5.toNat []).tail.tail.headD C.pnil).xs) (Tr.chk (isRows ((ys2.getD i5.toNat []).tail.headD C.pnil).xs) (Tr.chk (isL ((ys2.getD i5.toNat []).tail.tail.headD C.pnil).xs) (Tr.chk (decide (depL (decL ((ys.getD i5.toNat []).tail.tail.headD C.pnil).xs) < dd)) (Tr.chk (lensT (Nd.node ((ys.getD i5.toNat []).headD C.pnil).st (toRows ((ys.getD i5.toNat []).tail.headD C.pnil).xs) (decL ((ys.getD i5.toNat []).tail.tail.headD C.pnil).xs))) (Tr.br (!sameT (Nd.node ((ys.getD i5.toNat []).headD C.pnil).st (toRows ((ys.getD i5.toNat []).tail.headD C.pnil).xs) (decL ((ys.getD i5.toNat []).tail.tail.headD C.pnil).xs)) (Nd.node ((ys2.getD i5.toNat []).headD C.pnil).st (toRows ((ys2.getD i5.toNat []).tail.headD C.pnil).xs) (decL ((ys2.getD i5.toNat []).tail.tail.headD C.pnil).xs))) (Tr.leaf (R.x (x14_0x0 s rn rt xs kn kt ys s2 rn2 rt2 xs2 kn2 kt2 ys2))) (Tr.leaf (R.s (s14_0 s rn rt xs kn kt ys s2 rn2 rt2 xs2 kn2 kt2 ys2 (IntKind.i64.wrap (i5 + 1)))))))))))))))))))) (Tr.leaf (R.x (x14_0x1 s rn rt xs kn kt ys s2 rn2 rt2 xs2 kn2 kt2 ys2 i5)))) := by kernel_rfl
theorem k14_0x0 (dd : Nat) (s : Bys) (rn : OBo) (rt : Bool) (xs : LLC) (kn : OBo) (kt : Bool) (ys : LLC) (s2 : Bys) (rn2 : OBo) (rt2 : Bool) (xs2 : LLC) (kn2 : OBo) (kt2 : Bool) (ys2 : LLC) : (p14 dd).fkx 0 (x14_0x0 s rn rt xs kn kt ys s2 rn2 rt2 xs2 kn2 kt2 ys2) = (Tr.leaf (R.out [V.c (C.bool false)] [])) := by kernel_rfl
theorem k14_0x1 (dd : Nat) (s : Bys) (rn : OBo) (rt : Bool) (xs : LLC) (kn : OBo) (kt : Bool) (ys : LLC) (s2 : Bys) (rn2 : OBo) (rt2 : Bool) (xs2 : LLC) (kn2 : OBo) (kt2 : Bool) (ys2 : LLC) (i5 : Int) : (p14 dd).fkx 0 (x14_0x1 s rn rt xs kn kt ys s2 rn2 rt2 xs2 kn2 kt2 ys2 i5) = (Tr.leaf (R.out [V.c (C.bool true)] [])) := by kernel_rfl
theorem t14 (s : Bys) (rn : OBo) (rt : Bool) (xs : LLC) (kn : OBo) (kt : Bool) (ys : LLC) (s2 : Bys) (rn2 : OBo) (rt2 : Bool) (xs2 : LLC) (kn2 : OBo) (kt2 : Bool) (ys2 : LLC) : (p14 dd).ft ([V.agg [V.c (C.str s), V.c (C.sl 5 rn rt xs), V.c (C.sl 3 kn kt ys)], V.agg [V.c (C.str s2), V.c (C.sl 5 rn2 rt2 xs2), V.c (C.sl 3 kn2 kt2 ys2)]]) ([]) = (Tr.br (!s == s2) (Tr.leaf (R.out [V.c (C.bool false)] [])) (Tr.chk (isRows xs) (Tr.chk (isRows xs2) (Tr.chk (decide (xs.length <= 9223372036854775807)) (Tr.br (!decide (toRows xs = toRows xs2)) (Tr.leaf (R.out [V.c (C.bool false)] [])) (Tr.br ((↑ys.length : Int) != (↑ys2.length : Int)) (Tr.leaf (R.out [V.c (C.bool false)] [])) (Tr.ls 0 (s14_0 s rn rt xs kn kt ys s2 rn2 rt2 xs2 kn2 kt2 ys2 (0))))))))) := by kernel_rfl
end Go.Proofs.YtgaabjmbnomimaaGreatDoor
namespace Go.Proofs.YtgaabjmbnomimaaGreatDoor
open Go Go.Ev
theorem s26_ok : CSpecOk E 26 s26 := by
 intro a h cs vals h' he hc
 unfold s26 at he
 split at he <;> simp only [Option.some.injEq, Prod.mk.injEq, reduceCtorEq] at he
 rename_i nl tt xs nl2 t2 ys
 obtain ⟨rfl, rfl, rfl⟩ := he
 simp only [allT, Bool.and_true, Bool.and_eq_true, decide_eq_true_eq] at hc
 obtain ⟨h1, h2, h3⟩ := hc
 obtain ⟨l, rfl⟩ := rows_ex h1
 obtain ⟨m, rfl⟩ := rows_ex h2
 simp only [toRows_rows, rows_length] at *
 exact f26 l m nl tt nl2 t2 h3
theorem f91 (l m : List Row) (nl : OBo) (tt : Bool) (nl2 : OBo) (t2 : Bool) (hl : l.length <= 9223372036854775807) : call E 91 [.c (.sl 5 nl tt (rows l)), .c (.sl 5 nl2 t2 (rows m))] [] = some ([V.b (decide (l = m))], []) := by
 refine call_of (E := E) (sh := sh) (ct := ctOf []) (na := 2) (m := 0) ctOf_nil rfl rfl rfl rfl rfl rfl ?_
 rw [t91]
 simp only [ld_br, ld_chk', ld_leaf, fd_br, fd_chk', fd_leaf, decide_true, decide_eq_true_eq, if_true, Int.toNat_natCast, Int.natCast_nonneg, Int.ofNat_lt, Int.ofNat_le, Bool.false_eq_true, if_false, bne_iff_ne, beq_iff_eq, ne_eq, not_true_eq_false, not_false_eq_true, Bool.not_eq_true', decide_eq_false_iff_not, reduceCtorEq, rows_length, er_ok, er_ok', dr_er, isRows_rows, toRows_rows, rows_take, rows_drop, rows_append, ints_length, isInts_ints, toInts_ints, ei_i, ei_ok, mk_headD, ints_take, ints_drop, ints_append, ints_snoc, ints_snoc', List.take_length, Nat.zero_add, Nat.le_refl, er_a, er_b, er_k, er_n, er_s, er_v]
 by_cases h : l.length = m.length
 · have h' : ¬ ¬ (l.length : Int) = m.length := by omega
   rw [if_neg h']
   refine fd_post ctOf_nil (by kernel_rfl) rfl (list_post ctOf_nil (b := b91_0) l.length (fun k (_ : Unit) => s91_0 nl tt (rows l) nl2 t2 (rows m) l.length k) (fun k _ => l.take k = m.take k) _ ?_ ?_ 0 (Nat.zero_le _) () (by rfl))
   · intro k _ hk hi
     have hm : k < m.length := by omega
     rw [t91_0]
     simp only [ld_br, ld_chk', ld_leaf, fd_br, fd_chk', fd_leaf, decide_true, decide_eq_true_eq, if_true, Int.toNat_natCast, Int.natCast_nonneg, Int.ofNat_lt, Int.ofNat_le, Bool.false_eq_true, if_false, bne_iff_ne, beq_iff_eq, ne_eq, not_true_eq_false, not_false_eq_true, Bool.not_eq_true', decide_eq_false_iff_not, reduceCtorEq, rows_length, er_ok, er_ok', dr_er, isRows_rows, toRows_rows, rows_take, rows_drop, rows_append, ints_length, isInts_ints, toInts_ints, ei_i, ei_ok, mk_headD, ints_take, ints_drop, ints_append, ints_snoc, ints_snoc', List.take_length, Nat.zero_add, Nat.le_refl, er_a, er_b, er_k, er_n, er_s, er_v, hk, hm, rows_getD hk, rows_getD hm, row_eqb, wrap_succ (show k < 9223372036854775807 by omega)]
     by_cases he : l[k] = m[k]
     · left
       exact ⟨(), take_ext hi hk hm he, by simp [he]⟩
     · right
       refine ⟨x91_0x0, by simp, ?_, by simp [he]⟩
       rw [k91_0x0, fd_leaf, decide_eq_false (fun e => he (by subst e; rfl))]
   · intro _ hi
     rw [t91_0]
     refine ⟨x91_0x1 nl tt (rows l) nl2 t2 (rows m) l.length l.length, by simp, ?_, by simp only [ld_br, ld_chk', ld_leaf, fd_br, fd_chk', fd_leaf, decide_true, decide_eq_true_eq, if_true, Int.toNat_natCast, Int.natCast_nonneg, Int.ofNat_lt, Int.ofNat_le, Bool.false_eq_true, if_false, bne_iff_ne, beq_iff_eq, ne_eq, not_true_eq_false, not_false_eq_true, Bool.not_eq_true', decide_eq_false_iff_not, reduceCtorEq, rows_length, er_ok, er_ok', dr_er, isRows_rows, toRows_rows, rows_take, rows_drop, rows_append, ints_length, isInts_ints, toInts_ints, ei_i, ei_ok, mk_headD, ints_take, ints_drop, ints_append, ints_snoc, ints_snoc', List.take_length, Nat.zero_add, Nat.le_refl, er_a, er_b, er_k, er_n, er_s, er_v, Int.lt_irrefl]⟩
     rw [List.take_length, h, List.take_length] at hi
     rw [k91_0x1, fd_leaf, decide_eq_true hi]
 · have h' : ¬ (l.length : Int) = m.length := by omega
   rw [if_pos h', decide_eq_false (fun e => h (by rw [e]))]
def s91 : CSpec := fun a h => match a, h with
 | [.c (.sl 5 nl tt xs), .c (.sl 5 nl2 t2 ys)], [] => some ([isRows xs, isRows ys, decide (xs.length <= 9223372036854775807)], [V.b (decide (toRows xs = toRows ys))], [])
 | _, _ => none
theorem s91_ok : CSpecOk E 91 s91 := by
 intro a h cs vals h' he hc
 unfold s91 at he
 split at he <;> simp only [Option.some.injEq, Prod.mk.injEq, reduceCtorEq] at he
 rename_i nl tt xs nl2 t2 ys
 obtain ⟨rfl, rfl, rfl⟩ := he
 simp only [allT, Bool.and_true, Bool.and_eq_true, decide_eq_true_eq] at hc
 obtain ⟨h1, h2, h3⟩ := hc
 obtain ⟨l, rfl⟩ := rows_ex h1
 obtain ⟨m, rfl⟩ := rows_ex h2
 simp only [toRows_rows, rows_length] at *
 exact f91 l m nl tt nl2 t2 h3
mutual
theorem sameT_iff : ∀ (a b : Nd), sameT a b = true ↔ a = b
 | .node a r k, .node b s l => by
   rw [sameT]
   simp only [Bool.and_eq_true, decide_eq_true_eq, sameL_iff k l, Nd.node.injEq, and_assoc]
theorem sameL_iff : ∀ (a b : List Nd), sameL a b = true ↔ a = b
 | [], [] => by simp [sameL]
 | x :: p, y :: q => by simp only [sameL, Bool.and_eq_true, sameT_iff x y, sameL_iff p q, List.cons.injEq]
 | [], _ :: _ => by simp [sameL]
 | _ :: _, [] => by simp [sameL]
end
theorem sameT_refl (a : Nd) : sameT a a = true := (sameT_iff a a).2 rfl
theorem sameT_dec (a b : Nd) : sameT a b = false ↔ a ≠ b := by rw [<- Bool.not_eq_true, sameT_iff]
theorem sameL_ne {a b : List Nd} (h : a ≠ b) : sameL a b = false := by rw [<- Bool.not_eq_true, sameL_iff]; exact h
theorem f14 (dd : Nat) (ih : CSpecOk E 14 (s14 dd)) (t t2 : Nd) (rn : OBo) (rt : Bool) (kn : OBo) (kt : Bool) (rn2 : OBo) (rt2 : Bool) (kn2 : OBo) (kt2 : Bool) (hd : depL t.kids < dd + 1) (hl : lensT t = true) :
   call E 14 [.agg [.c (.str t.lab), .c (.sl 5 rn rt (rows t.rows)), .c (.sl 3 kn kt (encL t.kids))], .agg [.c (.str t2.lab), .c (.sl 5 rn2 rt2 (rows t2.rows)), .c (.sl 3 kn2 kt2 (encL t2.kids))]] [] = some ([V.b (sameT t t2)], []) := by
 have hct : (ctOf [(26, s26), (14, s14 dd)]).ok E := ctOf_cons s26_ok (ctOf_cons ih ctOf_nil)
 refine call_of (E := E) (sh := sh) (ct := ctOf [(26, s26), (14, s14 dd)]) (na := 2) (m := 0) hct rfl rfl rfl rfl rfl rfl ?_
 show (p14 dd).fd ((p14 dd).ft _ _) = _
 obtain ⟨s, rs, ks⟩ := t
 obtain ⟨s2, rs2, ks2⟩ := t2
 rw [lensT] at hl
 simp only [Nd.lab_node, Nd.rows_node, Nd.kids_node, Bool.and_eq_true, decide_eq_true_eq] at hd hl ⊢
 obtain ⟨⟨⟨l1, l2⟩, l3⟩, l4⟩ := hl
 rw [t14, sameT]
 have e1 : (!s == s2) = !decide (s = s2) := by rw [beqL]
 simp only [nd_ok, nd_lab, nd_rows, nd_kids, encL_length, isL_enc, decL_enc, wrap_hd, hd_pos, ld_br, ld_chk', ld_leaf, fd_br, fd_chk', fd_leaf, decide_true, decide_eq_true_eq, if_true, Int.toNat_natCast, Int.natCast_nonneg, Int.ofNat_lt, Int.ofNat_le, Bool.false_eq_true, if_false, bne_iff_ne, beq_iff_eq, ne_eq, not_true_eq_false, not_false_eq_true, Bool.not_eq_true', decide_eq_false_iff_not, reduceCtorEq, rows_length, er_ok, er_ok', dr_er, isRows_rows, toRows_rows, rows_take, rows_drop, rows_append, ints_length, isInts_ints, toInts_ints, ei_i, ei_ok, mk_headD, ints_take, ints_drop, ints_append, ints_snoc, ints_snoc', List.take_length, Nat.zero_add, Nat.le_refl, er_a, er_b, er_k, er_n, er_s, er_v, e1, l2]
 by_cases c1 : s = s2
 case neg => simp [c1]
 by_cases c2 : rs = rs2
 case neg => simp [c1, c2]
 by_cases c3 : ks.length = ks2.length
 case neg =>
   have : ks ≠ ks2 := fun e => c3 (by rw [e])
   rw [sameL_ne this]
   simp [c1, c2, show ¬ (ks.length : Int) = ks2.length by omega]
 subst c1; subst c2
 have c3' : (ks.length : Int) = ks2.length := by omega
 simp only [c3', decide_true, Bool.not_true, Bool.false_eq_true, if_false, Bool.true_and, not_true_eq_false]
 refine fd_post hct (by kernel_rfl) rfl (list_post (p := p14 dd) hct (b := b14_0) ks.length (fun k (_ : Unit) => s14_0 s rn rt (rows rs) kn kt (encL ks) s rn2 rt2 (rows rs) kn2 kt2 (encL ks2) k) (fun k _ => ks.take k = ks2.take k) _ ?_ ?_ 0 (Nat.zero_le _) () (by simp))
 · intro k _ hk hi
   have hm : k < ks2.length := by omega
   have hkid : depL ks[k].kids < dd := by have := depL_kid (List.getElem_mem hk); omega
   rw [t14_0]
   simp only [nd_ok, nd_lab, nd_rows, nd_kids, encL_length, isL_enc, decL_enc, wrap_hd, hd_pos, ld_br, ld_chk', ld_leaf, fd_br, fd_chk', fd_leaf, decide_true, decide_eq_true_eq, if_true, Int.toNat_natCast, Int.natCast_nonneg, Int.ofNat_lt, Int.ofNat_le, Bool.false_eq_true, if_false, bne_iff_ne, beq_iff_eq, ne_eq, not_true_eq_false, not_false_eq_true, Bool.not_eq_true', decide_eq_false_iff_not, reduceCtorEq, rows_length, er_ok, er_ok', dr_er, isRows_rows, toRows_rows, rows_take, rows_drop, rows_append, ints_length, isInts_ints, toInts_ints, ei_i, ei_ok, mk_headD, ints_take, ints_drop, ints_append, ints_snoc, ints_snoc', List.take_length, Nat.zero_add, Nat.le_refl, er_a, er_b, er_k, er_n, er_s, er_v, hk, hm, encL_getD hk, encL_getD hm, nd_node, hkid, lensL_mem l4 (List.getElem_mem hk), wrap_succ (show k < 9223372036854775807 by omega)]
   by_cases he : ks[k] = ks2[k]
   · left
     refine ⟨(), take_ext hi hk hm he, ?_⟩
     rw [(sameT_iff _ _).2 he]; rfl
   · right
     refine ⟨x14_0x0 s rn rt (rows rs) kn kt (encL ks) s rn2 rt2 (rows rs) kn2 kt2 (encL ks2), by simp, ?_, by rw [(sameT_dec _ _).2 he]; rfl⟩
     rw [k14_0x0, fd_leaf, sameL_ne (fun e => he (by subst e; rfl))]
 · intro _ hi
   rw [t14_0]
   refine ⟨x14_0x1 s rn rt (rows rs) kn kt (encL ks) s rn2 rt2 (rows rs) kn2 kt2 (encL ks2) ks.length, by simp, ?_, by simp only [nd_ok, nd_lab, nd_rows, nd_kids, encL_length, isL_enc, decL_enc, wrap_hd, hd_pos, ld_br, ld_chk', ld_leaf, fd_br, fd_chk', fd_leaf, decide_true, decide_eq_true_eq, if_true, Int.toNat_natCast, Int.natCast_nonneg, Int.ofNat_lt, Int.ofNat_le, Bool.false_eq_true, if_false, bne_iff_ne, beq_iff_eq, ne_eq, not_true_eq_false, not_false_eq_true, Bool.not_eq_true', decide_eq_false_iff_not, reduceCtorEq, rows_length, er_ok, er_ok', dr_er, isRows_rows, toRows_rows, rows_take, rows_drop, rows_append, ints_length, isInts_ints, toInts_ints, ei_i, ei_ok, mk_headD, ints_take, ints_drop, ints_append, ints_snoc, ints_snoc', List.take_length, Nat.zero_add, Nat.le_refl, er_a, er_b, er_k, er_n, er_s, er_v, Int.lt_irrefl]⟩
   rw [List.take_length, c3, List.take_length] at hi
   rw [k14_0x1, fd_leaf, (sameL_iff _ _).2 hi]
theorem s14_ok : ∀ d, CSpecOk E 14 (s14 d)
 | 0 => by
   intro a h cs vals h' he hc
   unfold s14 at he
   split at he <;> simp only [Option.some.injEq, Prod.mk.injEq, reduceCtorEq] at he
   obtain ⟨rfl, rfl, rfl⟩ := he
   simp [allT] at hc
 | d + 1 => by
   intro a h cs vals h' he hc
   unfold s14 at he
   split at he <;> simp only [Option.some.injEq, Prod.mk.injEq, reduceCtorEq] at he
   rename_i s rn rt xs kn kt ys s2 rn2 rt2 xs2 kn2 kt2 ys2
   obtain ⟨rfl, rfl, rfl⟩ := he
   simp only [allT, Bool.and_true, Bool.and_eq_true, decide_eq_true_eq] at hc
   obtain ⟨h1, h2, h3, h4, h5, h6⟩ := hc
   obtain ⟨rs, rfl⟩ := rows_ex h1
   obtain ⟨ks, rfl⟩ := isL_ex h2
   obtain ⟨rs2, rfl⟩ := rows_ex h3
   obtain ⟨ks2, rfl⟩ := isL_ex h4
   simp only [toRows_rows, decL_enc] at *
   exact f14 d (s14_ok d) (.node s rs ks) (.node s2 rs2 ks2) rn rt kn kt rn2 rt2 kn2 kt2 h5 h6
def s14n : CSpec := fun a h => match a, h with
 | [.agg [.c (.str s), .c (.sl 5 rn rt xs), .c (.sl 3 kn kt ys)], .agg [.c (.str s2), .c (.sl 5 rn2 rt2 xs2), .c (.sl 3 kn2 kt2 ys2)]], [] => some ([isRows xs, isL ys, isRows xs2, isL ys2, lensT (.node s (toRows xs) (decL ys))], [V.b (sameT (.node s (toRows xs) (decL ys)) (.node s2 (toRows xs2) (decL ys2)))], [])
 | _, _ => none
theorem s17n_ok : CSpecOk E 14 s14n := by
 intro a h cs vals h' he hc
 unfold s14n at he
 split at he <;> simp only [Option.some.injEq, Prod.mk.injEq, reduceCtorEq] at he
 rename_i s rn rt xs kn kt ys s2 rn2 rt2 xs2 kn2 kt2 ys2
 obtain ⟨rfl, rfl, rfl⟩ := he
 simp only [allT, Bool.and_true, Bool.and_eq_true, decide_eq_true_eq] at hc
 obtain ⟨h1, h2, h3, h4, h6⟩ := hc
 obtain ⟨rs, rfl⟩ := rows_ex h1
 obtain ⟨ks, rfl⟩ := isL_ex h2
 obtain ⟨rs2, rfl⟩ := rows_ex h3
 obtain ⟨ks2, rfl⟩ := isL_ex h4
 simp only [toRows_rows, decL_enc] at *
 exact f14 (depL ks) (s14_ok _) (.node s rs ks) (.node s2 rs2 ks2) rn rt kn kt rn2 rt2 kn2 kt2 (Nat.lt_succ_self _) h6
mutual
theorem okT_lens : ∀ (t : Nd) (n : Nat), n <= 24 -> okT t n = true -> lensT t = true
 | .node s rs ks, n, hn, h => by
   obtain ⟨g1, g2, g9003, g9004, g9005⟩ := okT_iff.1 h
   simp only [Nd.lab_node, Nd.rows_node, Nd.kids_node] at g1 g2 g9003 g9004 g9005
   have h1 := right_len4 g9003
   have h2 := okL_len (okL_iff'.2 g9005) (by omega)
   rw [lensT, kidsOk_lens ks _ (by omega) g9005]
   simp only [Bool.and_true, Bool.and_eq_true, decide_eq_true_eq]
   omega
theorem kidsOk_lens : ∀ (l : List Nd) (n : Nat), n <= 24 -> kidsOk l n -> lensL l = true
 | [], _, _, _ => rfl
 | t :: r, n, hn, h => by
   rw [lensL, okT_lens t n hn (h.1 t (by simp)), kidsOk_lens r n hn (kidsOk_sub h (List.sublist_cons_self _ _))]; rfl
end
theorem okR_lens {t : Nd} (h : okR t = true) : lensT t = true := by
 obtain ⟨h1, h2, h3⟩ := okR_iff.1 h
 have h4 := okL_len (okL_iff'.2 h3) (by omega)
 rw [lensT_eq, h1, h2, kidsOk_lens _ 24 (Nat.le_refl _) h3]
 simp; omega
end Go.Proofs.YtgaabjmbnomimaaGreatDoor
