/-
  Chapter 02 (span): the reference's Width, Runes, Right; Chapter 02 (span): the reference's Runes, Right, over, Same; Radix trees, plain: how deep; where a kid stands; Prefixes of strings: trees, written by a program; Prefixes of strings; Radix trees: trees, written by a program: place, Get's parts, below; Radix trees: place, Clone, below; Radix trees: trees, written by a program: Check, Get; the reference's Right, Entries, Get; what is small; Radix trees: Check, Get; the reference's Right; Radix trees: the reference's entries and Get; how many nodes are left; Radix trees: putting: trees, writt.
-/
import Derived.Test.YtgaabjmbnomimaaGreatDoorZaRunD
set_option linter.all false
namespace Go.Proofs.YtgaabjmbnomimaaGreatDoor
open Go Go.Ev
theorem byte_lt (b : UInt8) : ((b.toNat : Nat) : Int) < 256 := by have := b.toNat_lt; omega
theorem wrap_byte (b : UInt8) : IntKind.wrap .i64 ((b.toNat : Nat) : Int) = ((b.toNat : Nat) : Int) := by
 have := byte_lt b
 exact wrap_same (by omega) (by omega)
theorem loop66 (s : Bys) (i n c least : Int) (hs : s.length < 1000000) (h0 : 0 <= i) (hi : i < 1000000) (hn : 2 <= n) (hn4 : n <= 4) (hc : 0 <= c) (hc1 : c < 256) : p182.fd (.ls 0 (s182_0 s i n c least 1)) = some (.out [V.i (widthE s i n c least)] []) := by
 have key := list_post (p := p182) ctOf_nil (b := b182_0) (n - 1).toNat (fun k (c : Int) => s182_0 s i n c least (k + 1)) (fun k c' => widthG s i ((n - 1).toNat - k) (k + 1) c' = widthG s i (n - 1).toNat 1 c /\ 0 <= c' /\ c' < 256 * 64 ^ k)
   (fun x => p182.fd (p182.fkx 0 x) = some (.out [V.i (widthE s i n c least)] [])) ?_ ?_ 0 (Nat.zero_le _) c ⟨by simp, hc, by simpa using hc1⟩
 · exact fd_post ctOf_nil (by kernel_rfl) rfl key
 · rintro k c' hk ⟨h1, h2, h3⟩
   have hk3 : k < 3 := by omega
   have e1 : (n - 1).toNat - k = ((n - 1).toNat - (k + 1)) + 1 := by omega
   rw [e1, widthG] at h1
   rw [t182_0]
   have w1 : IntKind.wrap .i64 (i + ((k : Int) + 1)) = i + ((k : Int) + 1) := wrap_same (by omega) (by omega)
   have w2 : IntKind.wrap .i64 ((k : Int) + 1 + 1) = ((k + 1 : Nat) : Int) + 1 := by rw [wrap_same (by omega) (by omega)]; omega
   have hb := byte_lt (s.getD (i + ((k : Int) + 1)).toNat 0)
   have hpow : (256 : Int) * 64 ^ k <= 1048576 /\ (256 : Int) * 64 ^ (k + 1) = 64 * (256 * 64 ^ k) := by
     refine ⟨?_, by rw [Int.pow_succ]; omega⟩
     rcases (show k = 0 \/ k = 1 \/ k = 2 by omega) with rfl | rfl | rfl <;> decide
   generalize hbb : s.getD (i + ((k : Int) + 1)).toNat 0 = b at *
   have w3 : IntKind.wrap .i64 (64 * c') = 64 * c' := wrap_same (by omega) (by omega)
   have hm : ((b.toNat : Nat) : Int).tmod 64 = ((b.toNat % 64 : Nat) : Int) := rfl
   have hd : ((b.toNat : Nat) : Int).tdiv 64 = ((b.toNat / 64 : Nat) : Int) := rfl
   have w4 : IntKind.wrap .i64 (64 * c' + ((b.toNat % 64 : Nat) : Int)) = 64 * c' + ((b.toNat % 64 : Nat) : Int) := wrap_same (by omega) (by omega)
   have w5 : IntKind.wrap .i64 ((b.toNat / 64 : Nat) : Int) = ((b.toNat / 64 : Nat) : Int) := wrap_same (by omega) (by omega)
   have c1 : (k : Int) + 1 < n := by omega
   have c2 : 0 <= i + ((k : Int) + 1) := by omega
   simp only [ld_br, ld_chk', ld_leaf, fd_br, fd_chk', fd_leaf, decide_true, decide_eq_true_eq, if_true, Int.toNat_natCast, Int.natCast_nonneg, Int.ofNat_lt, Int.ofNat_le, Bool.false_eq_true, if_false, bne_iff_ne, beq_iff_eq, ne_eq, not_true_eq_false, not_false_eq_true, Bool.not_eq_true', decide_eq_false_iff_not, reduceCtorEq, rows_length, er_ok, er_ok', dr_er, isRows_rows, toRows_rows, rows_take, rows_drop, rows_append, ints_length, isInts_ints, toInts_ints, ei_i, ei_ok, mk_headD, ints_take, ints_drop, ints_append, ints_snoc, ints_snoc', List.take_length, Nat.zero_add, Nat.le_refl, er_a, er_b, er_k, er_n, er_s, er_v, w1, w2, wrap_byte, w3, hm, hd, w4, w5, c1, c2, hbb]
   have ex0 : p182.fd (p182.fkx 0 x182_0x0) = some (.out [V.i 0] []) := by rw [k182_0x0, fd_leaf]
   by_cases g1 : (s.length : Int) <= i + ((k : Int) + 1)
   · right
     rw [if_pos g1] at h1
     exact ⟨x182_0x0, by simp, by rw [ex0, widthE, <- h1], by rw [if_pos g1]⟩
   · rw [if_neg g1] at h1
     have c3 : (i + ((k : Int) + 1)).toNat < s.length := by omega
     rw [if_neg g1, if_pos c3]
     rw [hd, hm] at h1
     by_cases g2 : ((b.toNat / 64 : Nat) : Int) = 2
     · left
       rw [if_neg (fun h => h g2)] at h1
       refine ⟨64 * c' + ((b.toNat % 64 : Nat) : Int), ⟨by rw [<- h1]; simp only [Int.natCast_add, Int.natCast_one], by omega, by rw [hpow.2]; omega⟩, ?_⟩
       rw [if_neg (fun h => h g2)]
       simp only [Int.natCast_add, Int.natCast_one, if_pos c3]
     · right
       rw [if_pos g2] at h1
       exact ⟨x182_0x0, by simp, by rw [ex0, widthE, <- h1], by rw [if_pos g2]⟩
 · rintro c' ⟨h1, h2, h3⟩
   rw [Nat.sub_self, widthG] at h1
   rw [t182_0]
   have c1 : ¬ ((((n - 1).toNat : Nat) : Int) + 1 < n) := by omega
   refine ⟨x182_0x1 s i n c' least (((n - 1).toNat : Nat) + 1), by simp, ?_, by simp only [ld_br, ld_chk', ld_leaf, fd_br, fd_chk', fd_leaf, decide_true, decide_eq_true_eq, if_true, Int.toNat_natCast, Int.natCast_nonneg, Int.ofNat_lt, Int.ofNat_le, Bool.false_eq_true, if_false, bne_iff_ne, beq_iff_eq, ne_eq, not_true_eq_false, not_false_eq_true, Bool.not_eq_true', decide_eq_false_iff_not, reduceCtorEq, rows_length, er_ok, er_ok', dr_er, isRows_rows, toRows_rows, rows_take, rows_drop, rows_append, ints_length, isInts_ints, toInts_ints, ei_i, ei_ok, mk_headD, ints_take, ints_drop, ints_append, ints_snoc, ints_snoc', List.take_length, Nat.zero_add, Nat.le_refl, er_a, er_b, er_k, er_n, er_s, er_v, c1]⟩
   rw [k182_0x1, widthE, <- h1]
   simp only [ld_br, ld_chk', ld_leaf, fd_br, fd_chk', fd_leaf, decide_true, decide_eq_true_eq, if_true, Int.toNat_natCast, Int.natCast_nonneg, Int.ofNat_lt, Int.ofNat_le, Bool.false_eq_true, if_false, bne_iff_ne, beq_iff_eq, ne_eq, not_true_eq_false, not_false_eq_true, Bool.not_eq_true', decide_eq_false_iff_not, reduceCtorEq, rows_length, er_ok, er_ok', dr_er, isRows_rows, toRows_rows, rows_take, rows_drop, rows_append, ints_length, isInts_ints, toInts_ints, ei_i, ei_ok, mk_headD, ints_take, ints_drop, ints_append, ints_snoc, ints_snoc', List.take_length, Nat.zero_add, Nat.le_refl, er_a, er_b, er_k, er_n, er_s, er_v]
   by_cases g1 : c' < least
   · simp only [g1, if_true]
   · simp only [g1, if_false]
     by_cases g2 : 55296 <= c'
     · by_cases g18003 : c' < 57344
       · simp [g2, g18003]
       · by_cases g18004 : 1114111 < c' <;> simp [g2, g18003, g18004]
     · by_cases g18004 : 1114111 < c' <;> simp [g2, g18004]
theorem f182 (s : Bys) (i : Int) (hs : s.length < 1000000) (hi : i < 1000000) : call E 182 [.c (.str s), V.i i] [] = some ([V.i (widthR s i)], []) := by
 refine call_of (E := E) (sh := sh) (ct := ctOf []) (na := 2) (m := 0) ctOf_nil rfl rfl rfl rfl rfl rfl ?_
 rw [t182]
 simp only [fd_br, fd_chk', fd_leaf, decide_eq_true_eq, wrap_byte]
 unfold widthR
 by_cases h0 : i < 0
 · simp [h0]
 · by_cases h1 : (s.length : Int) <= i
   · simp [h0, h1]
   · have c1 : i.toNat < s.length := by omega
     have c2 : 0 <= i := by omega
     simp only [h0, h1, if_false, c1, c2, if_true, or_self]
     have hb := byte_lt (s.getD i.toNat 0)
     generalize hbb : ((s.getD i.toNat 0).toNat : Int) = b at *
     have hb0 : 0 <= b := by omega
     by_cases g1 : b < 128
     · simp only [g1, if_true]
     · simp only [g1, if_false]
       by_cases g2 : 192 <= b /\ b < 224
       · have : IntKind.wrap .i64 (b - 192) = b - 192 := wrap_same (by omega) (by omega)
         simp only [g2.1, g2.2, and_self, if_true, this]
         exact loop66 s i 2 (b - 192) 128 hs c2 hi (by omega) (by omega) (by omega) (by omega)
       · rw [if_neg g2]
         by_cases g18003 : 224 <= b /\ b < 240
         · have : IntKind.wrap .i64 (b - 224) = b - 224 := wrap_same (by omega) (by omega)
           have g18004 : 192 <= b := by omega
           have g18005 : ¬ b < 224 := by omega
           simp only [g18003.1, g18003.2, and_self, if_true, this, g18004, g18005, if_false]
           exact loop66 s i 3 (b - 224) 2048 hs c2 hi (by omega) (by omega) (by omega) (by omega)
         · rw [if_neg g18003]
           by_cases g18006 : 240 <= b /\ b < 248
           · have : IntKind.wrap .i64 (b - 240) = b - 240 := wrap_same (by omega) (by omega)
             have g18004 : 192 <= b := by omega
             have g18005 : ¬ b < 224 := by omega
             have g9003 : 224 <= b := by omega
             have g9004 : ¬ b < 240 := by omega
             simp only [g18006.1, g18006.2, and_self, if_true, this, g18004, g18005, g9003, g9004, if_false]
             exact loop66 s i 4 (b - 240) 65536 hs c2 hi (by omega) (by omega) (by omega) (by omega)
           · rw [if_neg g18006]
             repeat' split
             all_goals first | rfl | (exfalso; omega)
theorem s182_ok : CSpecOk E 182 s182 := by
 intro a h cs vals h' he hc
 unfold s182 at he
 split at he <;> simp only [Option.some.injEq, Prod.mk.injEq, reduceCtorEq] at he
 obtain ⟨rfl, rfl, rfl⟩ := he
 simp only [allT, Bool.and_eq_true, and_true, decide_eq_true_eq] at hc
 exact f182 _ _ hc.1 hc.2
def finW (n c least : Nat) : Nat := if c < least then 0 else if 55296 <= c /\ c < 57344 then 0 else if 1114111 < c then 0 else n
def wN (v0 v1 v2 v3 : Nat) (p1 p2 p18003 : Bool) : Nat :=
 if v0 < 128 then 1 else if 192 <= v0 /\ v0 < 224 then (if p1 = true /\ v1 / 64 = 2 then finW 2 (64 * (v0 - 192) + v1 % 64) 128 else 0)
 else if 224 <= v0 /\ v0 < 240 then (if p1 = true /\ v1 / 64 = 2 then (if p2 = true /\ v2 / 64 = 2 then finW 3 (64 * (64 * (v0 - 224) + v1 % 64) + v2 % 64) 2048 else 0) else 0)
 else if 240 <= v0 /\ v0 < 248 then (if p1 = true /\ v1 / 64 = 2 then (if p2 = true /\ v2 / 64 = 2 then (if p18003 = true /\ v3 / 64 = 2 then finW 4 (64 * (64 * (64 * (v0 - 240) + v1 % 64) + v2 % 64) + v3 % 64) 65536 else 0) else 0) else 0)
 else 0
def finI (n least : Int) : Option Int -> Int
 | none => 0
 | some c => if c < least then 0 else if 55296 <= c /\ c < 57344 then 0 else if 1114111 < c then 0 else n
theorem widthE_fin (s : Bys) (i n c least : Nat) (hn : 1 <= n) : widthE s i n c least = finI n least (widthG s i (n - 1) 1 c) := by
 unfold widthE
 rw [show ((n : Int) - 1).toNat = n - 1 by omega]
 rfl
theorem widthG_step (s : Bys) (i k f c : Nat) : widthG s i (f + 1) k c = if i + k < s.length /\ (s.getD (i + k) 0).toNat / 64 = 2 then widthG s i f ((k + 1 : Nat) : Int) ((64 * c + (s.getD (i + k) 0).toNat % 64 : Nat) : Int) else none := by
 rw [widthG]
 have e : ((i : Int) + (k : Int)).toNat = i + k := by omega
 have htd : ((s.getD (i + k) 0).toNat : Int).tdiv 64 = (((s.getD (i + k) 0).toNat / 64 : Nat) : Int) := rfl
 have htm : ((s.getD (i + k) 0).toNat : Int).tmod 64 = (((s.getD (i + k) 0).toNat % 64 : Nat) : Int) := rfl
 rw [e, htd, htm]
 by_cases h1 : i + k < s.length
 · by_cases h2 : (s.getD (i + k) 0).toNat / 64 = 2
   · have h3 : ¬ (s.length : Int) <= (i : Int) + k := by omega
     have h4 : (((s.getD (i + k) 0).toNat / 64 : Nat) : Int) = 2 := by omega
     rw [if_neg h3, if_neg (fun h => h h4), if_pos ⟨h1, h2⟩]
     congr 1
   · have h3 : ¬ (s.length : Int) <= (i : Int) + k := by omega
     have h4 : (((s.getD (i + k) 0).toNat / 64 : Nat) : Int) ≠ 2 := by omega
     rw [if_neg h3, if_pos h4, if_neg (fun h => h2 h.2)]
 · have h3 : (s.length : Int) <= (i : Int) + k := by omega
   rw [if_pos h3, if_neg (fun h => h1 h.1)]
theorem fin_cast (n c least : Nat) : (if (c : Int) < least then 0 else if 55296 <= (c : Int) /\ (c : Int) < 57344 then 0 else if 1114111 < (c : Int) then 0 else (n : Int)) = (finW n c least : Nat) := by
 unfold finW
 by_cases h1 : c < least
 · rw [if_pos (by omega), if_pos h1]; rfl
 · rw [if_neg (by omega), if_neg h1]
   by_cases h2 : 55296 <= c /\ c < 57344
   · rw [if_pos (by omega), if_pos h2]; rfl
   · rw [if_neg (by omega), if_neg h2]
     by_cases h3 : 1114111 < c
     · rw [if_pos (by omega), if_pos h3]; rfl
     · rw [if_neg (by omega), if_neg h3]
theorem finI_cast (n c least : Nat) : finI n least (some (c : Int)) = (finW n c least : Nat) := fin_cast n c least
theorem fin2 (c : Nat) : finI 2 128 (some (c : Int)) = (finW 2 c 128 : Nat) := finI_cast 2 c 128
theorem fin3 (c : Nat) : finI 3 2048 (some (c : Int)) = (finW 3 c 2048 : Nat) := finI_cast 3 c 2048
theorem fin4 (c : Nat) : finI 4 65536 (some (c : Int)) = (finW 4 c 65536 : Nat) := finI_cast 4 c 65536
theorem width_n (s : Bys) (i : Nat) (h : i < s.length) : widthR s i = (wN (s.getD i 0).toNat (s.getD (i + 1) 0).toNat (s.getD (i + 2) 0).toNat (s.getD (i + 3) 0).toNat (decide (i + 1 < s.length)) (decide (i + 2 < s.length)) (decide (i + 3 < s.length)) : Nat) := by
 have hne : ¬ ((i : Int) < 0 \/ (s.length : Int) <= i) := by omega
 unfold widthR wN
 rw [if_neg hne]
 simp only [Int.toNat_natCast, decide_eq_true_eq]
 generalize (s.getD i 0).toNat = v0
 have E : ∀ (n d least : Nat), 1 <= n -> d <= v0 -> widthE s i (n : Int) ((v0 : Int) - d) least = finI n least (widthG s i (n - 1) 1 ((v0 - d : Nat) : Int)) := fun n d least hn hd => by
   rw [<- widthE_fin s i n (v0 - d) least hn, show ((v0 : Int) - d) = ((v0 - d : Nat) : Int) by omega]
 by_cases c0 : v0 < 128
 · rw [if_pos (by omega), if_pos c0]; rfl
 rw [if_neg (by omega), if_neg c0]
 by_cases c1 : 192 <= v0 /\ v0 < 224
 · rw [if_pos (by omega), if_pos c1]
   have this : widthE s i 2 ((v0 : Int) - 192) 128 = finI 2 128 (widthG s i (2 - 1) 1 ((v0 - 192 : Nat) : Int)) := E 2 192 128 (by omega) c1.1
   rw [this, show (2 - 1 : Nat) = 0 + 1 from rfl, show (1 : Int) = ((1 : Nat) : Int) from rfl, widthG_step]
   by_cases h1 : i + 1 < s.length /\ (s.getD (i + 1) 0).toNat / 64 = 2
   · rw [if_pos h1, if_pos h1, widthG]
     rw [fin2]
   · rw [if_neg h1, if_neg h1]; rfl
 rw [if_neg (by omega), if_neg c1]
 by_cases c2 : 224 <= v0 /\ v0 < 240
 · rw [if_pos (by omega), if_pos c2]
   have this : widthE s i 3 ((v0 : Int) - 224) 2048 = finI 3 2048 (widthG s i (3 - 1) 1 ((v0 - 224 : Nat) : Int)) := E 3 224 2048 (by omega) c2.1
   rw [this, show (3 - 1 : Nat) = 1 + 1 from rfl, show (1 : Int) = ((1 : Nat) : Int) from rfl, widthG_step]
   by_cases h1 : i + 1 < s.length /\ (s.getD (i + 1) 0).toNat / 64 = 2
   · rw [if_pos h1, if_pos h1, show (1 : Nat) = 0 + 1 from rfl, widthG_step]
     by_cases h2 : i + 2 < s.length /\ (s.getD (i + 2) 0).toNat / 64 = 2
     · rw [if_pos h2, if_pos h2, widthG]
       rw [fin3]
     · rw [if_neg h2, if_neg h2]; rfl
   · rw [if_neg h1, if_neg h1]; rfl
 rw [if_neg (by omega), if_neg c2]
 by_cases c3 : 240 <= v0 /\ v0 < 248
 · rw [if_pos (by omega), if_pos c3]
   have this : widthE s i 4 ((v0 : Int) - 240) 65536 = finI 4 65536 (widthG s i (4 - 1) 1 ((v0 - 240 : Nat) : Int)) := E 4 240 65536 (by omega) c3.1
   rw [this, show (4 - 1 : Nat) = 2 + 1 from rfl, show (1 : Int) = ((1 : Nat) : Int) from rfl, widthG_step]
   by_cases h1 : i + 1 < s.length /\ (s.getD (i + 1) 0).toNat / 64 = 2
   · rw [if_pos h1, if_pos h1, show (2 : Nat) = 1 + 1 from rfl, widthG_step]
     by_cases h2 : i + 2 < s.length /\ (s.getD (i + 2) 0).toNat / 64 = 2
     · rw [if_pos h2, if_pos h2, widthG_step]
       by_cases h3 : i + 3 < s.length /\ (s.getD (i + 3) 0).toNat / 64 = 2
       · rw [if_pos h3, if_pos h3, widthG]
         rw [fin4]
       · rw [if_neg h3, if_neg h3]; rfl
     · rw [if_neg h2, if_neg h2]; rfl
   · rw [if_neg h1, if_neg h1]; rfl
 rw [if_neg (by omega), if_neg c3]; rfl
def dN (v0 v1 v2 v3 : Nat) (p1 p2 p18003 : Bool) : Nat × Nat :=
 if v0 < 0x80 then (v0, 1)
 else if v0 / 32 == 6 && (p1 && v1 / 64 == 2) then
   let c := (v0 % 32) * 64 + v1 % 64
   if c >= 0x80 then (c, 2) else (Utf8.runeError, 1)
 else if v0 / 16 == 14 && (p1 && v1 / 64 == 2) && (p2 && v2 / 64 == 2) then
   let c := (v0 % 16) * 4096 + (v1 % 64) * 64 + v2 % 64
   if c >= 0x800 && Utf8.valid c then (c, 3) else (Utf8.runeError, 1)
 else if v0 / 8 == 30 && (p1 && v1 / 64 == 2) && (p2 && v2 / 64 == 2) && (p18003 && v3 / 64 == 2) then
   let c := (v0 % 8) * 262144 + (v1 % 64) * 4096 + (v2 % 64) * 64 + v3 % 64
   if c >= 0x10000 && Utf8.valid c then (c, 4) else (Utf8.runeError, 1)
 else (Utf8.runeError, 1)
theorem get_nat (s : Bys) (j : Nat) : ((ByteArray.mk s.toArray).get! j).toNat = (s.getD j 0).toNat := by
 simp only [ByteArray.get!, List.getD_eq_getElem?_getD]
 by_cases h : j < s.length
 · simp [h]
 · simp [h]; rfl
theorem decode_n (s : Bys) (i : Nat) : Utf8.decode ⟨s.toArray⟩ i = dN (s.getD i 0).toNat (s.getD (i + 1) 0).toNat (s.getD (i + 2) 0).toNat (s.getD (i + 3) 0).toNat (decide (i + 1 < s.length)) (decide (i + 2 < s.length)) (decide (i + 3 < s.length)) := by
 have hsz : (ByteArray.mk s.toArray).size = s.length := by simp [ByteArray.size]
 unfold Utf8.decode dN
 simp only [get_nat, hsz, Nat.add_zero]
theorem valid_iff (c : Nat) : Utf8.valid (c : Int) = true ↔ (c < 55296 \/ (57344 <= c /\ c <= 1114111)) := by
 unfold Utf8.valid
 rw [Bool.or_eq_true, Bool.and_eq_true, Bool.and_eq_true, decide_eq_true_eq, decide_eq_true_eq, decide_eq_true_eq, decide_eq_true_eq]
 constructor
 · rintro (⟨h1, h2⟩ | ⟨h1, h2⟩)
   · left; omega
   · right; exact ⟨by omega, by omega⟩
 · rintro (h | ⟨h1, h2⟩)
   · left; exact ⟨by omega, by omega⟩
   · right; exact ⟨by omega, by omega⟩
def wOf (d : Nat × Nat) : Nat := if d.1 = 65533 /\ d.2 < 2 then 0 else d.2
theorem wOf_bad : wOf (Utf8.runeError, 1) = 0 := by simp [wOf, Utf8.runeError]
theorem fin_wOf (c n least : Nat) (hn : 2 <= n) : finW n c least = wOf (if (decide (c >= least) && Utf8.valid (c : Int)) = true then (c, n) else (Utf8.runeError, 1)) := by
 have hv := valid_iff c
 by_cases h : c < least
 · have : ¬ (decide (c >= least) && Utf8.valid (c : Int)) = true := by simp; omega
   rw [if_neg this, wOf_bad, finW, if_pos h]
 · by_cases h2 : Utf8.valid (c : Int) = true
   · have : (decide (c >= least) && Utf8.valid (c : Int)) = true := by simp [h2]; omega
     rw [if_pos this, finW, if_neg h]
     have h2 := hv.1 h2
     have e1 : ¬ (55296 <= c /\ c < 57344) := by omega
     have e2 : ¬ (1114111 < c) := by omega
     rw [if_neg e1, if_neg e2, wOf, if_neg (by simp; omega)]
   · have : ¬ (decide (c >= least) && Utf8.valid (c : Int)) = true := by simp [h2]
     rw [if_neg this, wOf_bad, finW, if_neg h]
     have h2 : ¬ (c < 55296 \/ (57344 <= c /\ c <= 1114111)) := fun h => h2 (hv.2 h)
     by_cases e1 : 55296 <= c /\ c < 57344
     · rw [if_pos e1]
     · have e2 : 1114111 < c := by omega
       rw [if_neg e1, if_pos e2]
theorem fin_wOf2 (c : Nat) (h : c < 2048) : finW 2 c 128 = wOf (if c >= 0x80 then (c, 2) else (Utf8.runeError, 1)) := by
 by_cases h1 : c < 128
 · rw [if_neg (by omega), wOf_bad, finW, if_pos h1]
 · have e1 : ¬ (55296 <= c /\ c < 57344) := by omega
   have e2 : ¬ (1114111 < c) := by omega
   rw [if_pos (by omega), finW, if_neg h1, if_neg e1, if_neg e2, wOf, if_neg (by simp)]
theorem w_d (v0 v1 v2 v3 : Nat) (p1 p2 p18003 : Bool) (h0 : v0 < 256) (h1 : v1 < 256) (h2 : v2 < 256) (h3 : v3 < 256) : wN v0 v1 v2 v3 p1 p2 p18003 = wOf (dN v0 v1 v2 v3 p1 p2 p18003) := by
 unfold wN dN
 by_cases c0 : v0 < 128
 · rw [if_pos c0, if_pos c0, wOf, if_neg (by simp; omega)]
 rw [if_neg c0, if_neg c0]
 have cont : ∀ (p : Bool) (v : Nat), (p && v / 64 == 2) = decide (p = true /\ v / 64 = 2) := fun p v => by
   rw [Bool.eq_iff_iff]; simp
 simp only [cont]
 by_cases c1 : 192 <= v0 /\ v0 < 224
 · have q1 : (v0 / 32 == 6) = true := by rw [beq_iff_eq]; omega
   have q2 : (v0 / 16 == 14) = false := by rw [beq_eq_false_iff_ne]; omega
   have q3 : (v0 / 8 == 30) = false := by rw [beq_eq_false_iff_ne]; omega
   have e : (v0 % 32) * 64 + v1 % 64 = 64 * (v0 - 192) + v1 % 64 := by omega
   rw [if_pos c1, q1, q2, q3, e]
   by_cases g1 : p1 = true /\ v1 / 64 = 2
   · rw [if_pos g1, decide_eq_true g1, Bool.true_and, if_pos rfl]
     exact fin_wOf2 _ (by omega)
   · rw [if_neg g1, decide_eq_false g1, Bool.true_and, if_neg Bool.false_ne_true]
     simp only [Bool.false_and, Bool.false_eq_true, if_false]
     exact wOf_bad.symm
 have q1 : (v0 / 32 == 6) = false := by rw [beq_eq_false_iff_ne]; omega
 rw [if_neg c1, q1, Bool.false_and, if_neg Bool.false_ne_true]
 by_cases c2 : 224 <= v0 /\ v0 < 240
 · have q2 : (v0 / 16 == 14) = true := by rw [beq_iff_eq]; omega
   have q3 : (v0 / 8 == 30) = false := by rw [beq_eq_false_iff_ne]; omega
   have e : (v0 % 16) * 4096 + (v1 % 64) * 64 + v2 % 64 = 64 * (64 * (v0 - 224) + v1 % 64) + v2 % 64 := by omega
   rw [if_pos c2, q2, q3, e]
   by_cases g1 : p1 = true /\ v1 / 64 = 2
   · by_cases g2 : p2 = true /\ v2 / 64 = 2
     · rw [if_pos g1, if_pos g2, decide_eq_true g1, decide_eq_true g2, Bool.true_and, Bool.true_and, if_pos rfl]
       exact fin_wOf _ 3 2048 (by omega)
     · rw [if_pos g1, if_neg g2, decide_eq_true g1, decide_eq_false g2, Bool.and_false, if_neg Bool.false_ne_true]
       simp only [Bool.false_and, Bool.false_eq_true, if_false]
       exact wOf_bad.symm
   · rw [if_neg g1, decide_eq_false g1, Bool.and_false, Bool.false_and, if_neg Bool.false_ne_true]
     simp only [Bool.false_and, Bool.false_eq_true, if_false]
     exact wOf_bad.symm
 have q2 : (v0 / 16 == 14) = false := by rw [beq_eq_false_iff_ne]; omega
 rw [if_neg c2, q2, Bool.false_and, Bool.false_and, if_neg Bool.false_ne_true]
 by_cases c3 : 240 <= v0 /\ v0 < 248
 · have q3 : (v0 / 8 == 30) = true := by rw [beq_iff_eq]; omega
   have e : (v0 % 8) * 262144 + (v1 % 64) * 4096 + (v2 % 64) * 64 + v3 % 64 = 64 * (64 * (64 * (v0 - 240) + v1 % 64) + v2 % 64) + v3 % 64 := by omega
   rw [if_pos c3, q3, e]
   by_cases g1 : p1 = true /\ v1 / 64 = 2
   · by_cases g2 : p2 = true /\ v2 / 64 = 2
     · by_cases g18003 : p18003 = true /\ v3 / 64 = 2
       · rw [if_pos g1, if_pos g2, if_pos g18003, decide_eq_true g1, decide_eq_true g2, decide_eq_true g18003, Bool.true_and, Bool.true_and, Bool.true_and, if_pos rfl]
         exact fin_wOf _ 4 65536 (by omega)
       · rw [if_pos g1, if_pos g2, if_neg g18003, decide_eq_false g18003, Bool.and_false, if_neg Bool.false_ne_true]
         exact wOf_bad.symm
     · rw [if_pos g1, if_neg g2, decide_eq_false g2, Bool.and_false, Bool.false_and, if_neg Bool.false_ne_true]
       exact wOf_bad.symm
   · rw [if_neg g1, decide_eq_false g1, Bool.and_false, Bool.false_and, Bool.false_and, if_neg Bool.false_ne_true]
     exact wOf_bad.symm
 · have q3 : (v0 / 8 == 30) = false := by rw [beq_eq_false_iff_ne]; omega
   rw [if_neg c3, q3, Bool.false_and, Bool.false_and, Bool.false_and, if_neg Bool.false_ne_true]
   exact wOf_bad.symm
theorem width_decode (s : Bys) (i : Nat) (h : i < s.length) : widthR s i = if (Utf8.decode ⟨s.toArray⟩ i).1 = 65533 /\ (Utf8.decode ⟨s.toArray⟩ i).2 < 2 then 0 else ((Utf8.decode ⟨s.toArray⟩ i).2 : Int) := by
 have hlt : ∀ k, (s.getD k 0).toNat < 256 := fun k => (s.getD k 0).toNat_lt
 rw [width_n s i h, w_d _ _ _ _ _ _ _ (hlt _) (hlt _) (hlt _) (hlt _), <- decode_n, wOf]
 split <;> rfl
theorem runes_eq (s : Bys) : ∀ (f pos : Nat) (n : Int), s.length <= pos + f -> 0 <= n -> runesR s (f + 1) pos n = match runesN ⟨s.toArray⟩ f pos with | none => -1 | some k => n + k
 | f, pos, n, h, hn => by
   have hsz : (ByteArray.mk s.toArray).size = s.length := by simp [ByteArray.size]
   by_cases hp : pos < s.length
   · have hp' : (pos : Int) < s.length := by omega
     have hps : pos < (ByteArray.mk s.toArray).size := by rw [hsz]; exact hp
     have hwd := width_decode s pos hp
     cases f with
     | zero => omega
     | succ f =>
       by_cases hb : (Utf8.decode ⟨s.toArray⟩ pos).1 = 65533 /\ (Utf8.decode ⟨s.toArray⟩ pos).2 < 2
       · rw [if_pos hb] at hwd
         rw [runesR, if_pos hp', if_pos hwd, runesN, if_pos hps, if_pos hb]
       · rw [if_neg hb] at hwd
         have hw := width_pos ⟨s.toArray⟩ pos
         have hne : ¬ widthR s pos = 0 := by rw [hwd]; omega
         have := runes_eq s f (pos + (Utf8.decode ⟨s.toArray⟩ pos).2) (n + 1) (by omega) (by omega)
         rw [runesR, if_pos hp', if_neg hne, hwd, runesN, if_pos hps, if_neg hb]
         rw [show (pos : Int) + ((Utf8.decode ⟨s.toArray⟩ pos).2 : Int) = ((pos + (Utf8.decode ⟨s.toArray⟩ pos).2 : Nat) : Int) by omega, this]
         cases runesN ⟨s.toArray⟩ f (pos + (Utf8.decode ⟨s.toArray⟩ pos).2) with
         | none => rfl
         | some k =>
           show n + 1 + (k : Int) = n + ((k + 1 : Nat) : Int)
           omega
   · have hp' : ¬ (pos : Int) < s.length := by omega
     rw [runesR, if_neg hp', runesN_end (⟨s.toArray⟩ : ByteArray) (by rw [hsz]; exact hp)]
     simp
theorem runes_same (s : Bys) : runesR s (s.length + 1) 0 0 = runesL s := by
 have := runes_eq s s.length 0 0 (by omega) (by omega)
 simp only [Int.natCast_zero] at this
 rw [this, runesL]
 cases runesN ⟨s.toArray⟩ s.length 0 with
 | none => rfl
 | some k => simp [runesI]
theorem valR_eq (v : Val) : valR v = decide (checkV v = 0) := by
 unfold valR checkV
 rw [runes_same]
 by_cases h1 : v.k = 1
 · by_cases h2 : v.s = [] <;> simp [h1, h2]
 · by_cases h3 : v.k = 2
   · by_cases h4 : v.n = 0
     · by_cases h5 : v.s.length <= 40
       · by_cases h6 : 0 <= runesL v.s <;> simp [h3, h4, h5, h6]
       · simp [h3, h4, h5]
     · simp [h3, h4]
   · simp [h1, h3]
end Go.Proofs.YtgaabjmbnomimaaGreatDoor
namespace Go.Proofs.YtgaabjmbnomimaaGreatDoor
open Go Go.Ev
theorem width_bounds (s : Bys) (i : Nat) (h : i < s.length) : 0 <= widthR s i /\ widthR s i <= 4 := by
 have h4 : ∀ n c least, finW n c least <= n := fun n c least => by
   unfold finW
   split
   · omega
   · split
     · omega
     · split <;> omega
 rw [width_n s i h]
 refine ⟨by omega, ?_⟩
 have : ∀ v0 v1 v2 v3 p1 p2 p18003, wN v0 v1 v2 v3 p1 p2 p18003 <= 4 := by
   intro v0 v1 v2 v3 p1 p2 p18003
   have a2 := h4 2 (64 * (v0 - 192) + v1 % 64) 128
   have a3 := h4 3 (64 * (64 * (v0 - 224) + v1 % 64) + v2 % 64) 2048
   have a4 := h4 4 (64 * (64 * (64 * (v0 - 240) + v1 % 64) + v2 % 64) + v3 % 64) 65536
   unfold wN
   repeat' split
   all_goals omega
 have := this (s.getD i 0).toNat (s.getD (i + 1) 0).toNat (s.getD (i + 2) 0).toNat (s.getD (i + 3) 0).toNat (decide (i + 1 < s.length)) (decide (i + 2 < s.length)) (decide (i + 3 < s.length))
 omega
theorem f149 (s : Bys) (hs : s.length < 1000000) : call E 149 [.c (.str s)] [] = some ([V.i (runesR s (s.length + 1) 0 0)], []) := by
 have hct : (ctOf [(182, s182)]).ok E := ctOf_cons s182_ok ctOf_nil
 refine call_of (E := E) (sh := sh) (ct := ctOf [(182, s182)]) (na := 1) (m := 0) hct rfl rfl rfl rfl rfl rfl ?_
 rw [t149]
 refine fd_post hct (by kernel_rfl) rfl (loops_post hct (b := b149_0) (ι := Nat × Nat × Nat) (fun i => s149_0 s (i.1 : Int) (i.2.1 : Int)) (fun i => runesR s i.2.2 i.2.1 i.1 = runesR s (s.length + 1) 0 0 /\ i.1 <= i.2.1 /\ s.length + 1 <= i.2.1 + i.2.2 /\ i.2.1 <= s.length + 4 /\ 0 < i.2.2) (fun i => s.length + 5 - i.2.1) _ ?_ (0, 0, s.length + 1) ⟨rfl, by simp, by simp, by simp, by simp⟩)
 rintro ⟨n, pos, f⟩ ⟨h1, h2, h3, h4, h5⟩
 dsimp only at *
 rw [t149_0]
 obtain ⟨f, rfl⟩ : ∃ g, f = g + 1 := ⟨f - 1, by omega⟩
 rw [runesR] at h1
 by_cases hp : pos < s.length
 · have hp' : (pos : Int) < s.length := by omega
   have e0 : (pos : Int) < 1000000 := by omega
   simp only [ld_br, ld_chk', ld_leaf, fd_br, fd_chk', fd_leaf, decide_true, decide_eq_true_eq, if_true, Int.toNat_natCast, Int.natCast_nonneg, Int.ofNat_lt, Int.ofNat_le, Bool.false_eq_true, if_false, bne_iff_ne, beq_iff_eq, ne_eq, not_true_eq_false, not_false_eq_true, Bool.not_eq_true', decide_eq_false_iff_not, reduceCtorEq, rows_length, er_ok, er_ok', dr_er, isRows_rows, toRows_rows, rows_take, rows_drop, rows_append, ints_length, isInts_ints, toInts_ints, ei_i, ei_ok, mk_headD, ints_take, ints_drop, ints_append, ints_snoc, ints_snoc', List.take_length, Nat.zero_add, Nat.le_refl, er_a, er_b, er_k, er_n, er_s, er_v, hs, e0]
   obtain ⟨b1, b2⟩ := width_bounds s pos hp
   rw [if_pos hp'] at h1
   rw [if_pos hp]
   by_cases hw : widthR s pos = 0
   · rw [if_pos hw] at h1
     right
     refine ⟨x149_0x0, by simp, ?_, by rw [if_pos hw]⟩
     rw [k149_0x0, fd_leaf, <- h1]
   · rw [if_neg hw] at h1
     left
     have e1 : (pos : Int) + widthR s pos = ((pos + (widthR s pos).toNat : Nat) : Int) := by omega
     refine ⟨(n + 1, pos + (widthR s pos).toNat, f), ⟨?_, ?_, ?_, ?_, ?_⟩, ?_, ?_⟩
     · rw [<- h1, e1]; rfl
     all_goals dsimp only
     · omega
     · omega
     · omega
     · omega
     · omega
     · rw [if_neg hw, wrap_succ (by omega), e1, wrap_same (by omega) (by omega)]
 · have hp' : ¬ (pos : Int) < s.length := by omega
   rw [if_neg hp'] at h1
   simp only [ld_br, ld_chk', ld_leaf, fd_br, fd_chk', fd_leaf, decide_true, decide_eq_true_eq, if_true, Int.toNat_natCast, Int.natCast_nonneg, Int.ofNat_lt, Int.ofNat_le, Bool.false_eq_true, if_false, bne_iff_ne, beq_iff_eq, ne_eq, not_true_eq_false, not_false_eq_true, Bool.not_eq_true', decide_eq_false_iff_not, reduceCtorEq, rows_length, er_ok, er_ok', dr_er, isRows_rows, toRows_rows, rows_take, rows_drop, rows_append, ints_length, isInts_ints, toInts_ints, ei_i, ei_ok, mk_headD, ints_take, ints_drop, ints_append, ints_snoc, ints_snoc', List.take_length, Nat.zero_add, Nat.le_refl, er_a, er_b, er_k, er_n, er_s, er_v]
   right
   refine ⟨x149_0x1 s n pos, by simp, ?_, by rw [if_neg hp]⟩
   rw [k149_0x1, fd_leaf, <- h1]
theorem s149_ok : CSpecOk E 149 s149 := by
 intro a h cs vals h' he hc
 unfold s149 at he
 split at he <;> simp only [Option.some.injEq, Prod.mk.injEq, reduceCtorEq] at he
 obtain ⟨rfl, rfl, rfl⟩ := he
 simp only [allT, Bool.and_true, decide_eq_true_eq] at hc
 exact f149 _ hc
theorem f98 (v : Val) : call E 98 [VV v] [] = some ([V.b (valR v)], []) := by
 obtain ⟨k, n, s⟩ := v
 refine call_of (E := E) (sh := sh) (ct := ctOf [(149, s149)]) (na := 1) (m := 0) (ctOf_cons s149_ok ctOf_nil) rfl rfl rfl rfl rfl rfl ?_
 rw [t98]
 simp only [ld_br, ld_chk', ld_leaf, fd_br, fd_chk', fd_leaf, decide_true, decide_eq_true_eq, if_true, Int.toNat_natCast, Int.natCast_nonneg, Int.ofNat_lt, Int.ofNat_le, Bool.false_eq_true, if_false, bne_iff_ne, beq_iff_eq, ne_eq, not_true_eq_false, not_false_eq_true, Bool.not_eq_true', decide_eq_false_iff_not, reduceCtorEq, rows_length, er_ok, er_ok', dr_er, isRows_rows, toRows_rows, rows_take, rows_drop, rows_append, ints_length, isInts_ints, toInts_ints, ei_i, ei_ok, mk_headD, ints_take, ints_drop, ints_append, ints_snoc, ints_snoc', List.take_length, Nat.zero_add, Nat.le_refl, er_a, er_b, er_k, er_n, er_s, er_v, valR]
 have hle : ((s.length : Int) <= 40) = (s.length <= 40) := by simp; omega
 simp only [hle]
 by_cases h1 : k = 1
 · subst h1
   by_cases h2 : s = [] <;> simp [h2]
 · by_cases h3 : k = 2
   · subst h3
     by_cases h4 : n = 0
     · by_cases h5 : s.length <= 40
       · have h6 : s.length < 1000000 := by omega
         simp [h4, h5, h6]
       · simp [h4, h5]
     · simp [h4]
   · simp [h1, h3]
theorem s98_ok : CSpecOk E 98 s98 := by
 intro a h cs vals h' he hc
 unfold s98 at he
 split at he <;> simp only [Option.some.injEq, Prod.mk.injEq, reduceCtorEq] at he
 rename_i k n s
 obtain ⟨rfl, rfl, rfl⟩ := he
 exact f98 ⟨k, n, s⟩
theorem s99_ok : CSpecOk E 99 s99 := by
 intro a h cs vals h' he hc
 unfold s99 s124 at he
 split at he <;> simp only [Option.some.injEq, Prod.mk.injEq, reduceCtorEq] at he
 obtain ⟨rfl, rfl, rfl⟩ := he
 exact f99 _ _
theorem f72 (l : List Row) (nl : OBo) (tt : Bool) : call E 72 [.c (.sl 5 nl tt (rows l))] [] = some ([V.b (right l)], []) := by
 have hct : (ctOf [(99, s99), (98, s98)]).ok E := ctOf_cons s99_ok (ctOf_cons s98_ok ctOf_nil)
 refine call_of (E := E) (sh := sh) (ct := ctOf [(99, s99), (98, s98)]) (na := 1) (m := 0) hct rfl rfl rfl rfl rfl rfl ?_
 rw [t72, rows_length]
 simp only [fd_br, decide_eq_true_eq]
 by_cases hl : (64 : Int) < l.length
 · rw [if_pos hl, fd_leaf]
   have : right l = false := by simp [right]; omega
   rw [this]
 · rw [if_neg hl]
   have hr : right l = okFrom none l := by simp [right]; omega
   rw [hr]
   refine fd_post hct (by kernel_rfl) rfl (list_post hct (b := b72_0) l.length (fun k (_ : Unit) => s72_0 nl tt (rows l) k) (fun k _ => okFrom (if k = 0 then none else l[k - 1]?) (l.drop k) = okFrom none l) _ ?_ ?_ 0 (Nat.zero_le _) () (by rfl))
   · intro k _ hk hi
     rw [List.drop_eq_getElem_cons hk] at hi
     simp only [okFrom] at hi
     rw [t72_0]
     simp only [ld_br, ld_chk', ld_leaf, fd_br, fd_chk', fd_leaf, decide_true, decide_eq_true_eq, if_true, Int.toNat_natCast, Int.natCast_nonneg, Int.ofNat_lt, Int.ofNat_le, Bool.false_eq_true, if_false, bne_iff_ne, beq_iff_eq, ne_eq, not_true_eq_false, not_false_eq_true, Bool.not_eq_true', decide_eq_false_iff_not, reduceCtorEq, rows_length, er_ok, er_ok', dr_er, isRows_rows, toRows_rows, rows_take, rows_drop, rows_append, ints_length, isInts_ints, toInts_ints, ei_i, ei_ok, mk_headD, ints_take, ints_drop, ints_append, ints_snoc, ints_snoc', List.take_length, Nat.zero_add, Nat.le_refl, er_a, er_b, er_k, er_n, er_s, er_v, hk, rows_getD hk, wrap_succ (show k < 9223372036854775807 by omega), valR_eq]
     have ex0 : ∀ {b : Bool}, b = false -> p72.fd (p72.fkx 0 x72_0x0) = some (.out [V.b b] []) := fun h => by rw [k72_0x0, fd_leaf, h]
     by_cases h1 : isSpan l[k].a l[k].b = false
     · right
       refine ⟨x72_0x0, by simp, ex0 (by rw [<- hi, h1]; rfl), ?_⟩
       rw [if_pos h1]
     · rw [if_neg h1]
       have h1' : isSpan l[k].a l[k].b = true := by simpa using h1
       by_cases h2 : checkV l[k].v = 0
       · simp only [h2, not_true_eq_false, if_false]
         rw [h1', decide_eq_true h2, Bool.true_and, Bool.true_and] at hi
         cases k with
         | zero =>
           left
           refine ⟨(), ?_, ?_⟩
           · rw [<- hi]; simp [List.getElem?_eq_getElem hk]
           · simp
         | succ k =>
           have hk' : k < l.length := by omega
           have e1 : l[k + 1 - 1]? = some l[k] := by simp [hk']
           rw [if_neg (by omega), e1] at hi
           simp only at hi
           have hw2 : IntKind.wrap .i64 (((k + 1 : Nat) : Int) - 1) = (k : Int) := by rw [wrap_same (by omega) (by omega)]; omega
           have hpos : (0 : Int) < ((k + 1 : Nat) : Int) := by omega
           simp only [hpos, if_true, hw2, Int.natCast_nonneg, Int.toNat_natCast, hk', rows_getD hk', er_ok', er_a, er_b, er_k, er_n, er_s, val_eqb, decide_eq_true_eq]
           by_cases h3 : l[k + 1].a < l[k].b
           · right
             refine ⟨x72_0x0, by simp, ex0 (by rw [<- hi]; simp [h3]), by rw [if_pos h3]⟩
           · by_cases h4 : l[k + 1].a = l[k].b
             · by_cases h5 : l[k + 1].v = l[k].v
               · right
                 refine ⟨x72_0x0, by simp, ex0 (by rw [<- hi]; simp [h4, h5]), by rw [if_neg h3, if_pos h4, if_pos h5]⟩
               · left
                 refine ⟨(), ?_, by rw [if_neg h3, if_pos h4, if_neg h5]⟩
                 rw [<- hi]; simp [h3, h5, List.getElem?_eq_getElem hk]
             · left
               refine ⟨(), ?_, by rw [if_neg h3, if_neg h4]⟩
               rw [<- hi]; simp [h3, h4, List.getElem?_eq_getElem hk]
       · right
         refine ⟨x72_0x0, by simp, ex0 (by rw [<- hi]; simp [h2]), ?_⟩
         rw [if_pos h2]
   · intro _ hi
     rw [List.drop_length] at hi
     simp only [okFrom] at hi
     rw [t72_0]
     refine ⟨x72_0x1 nl tt (rows l) l.length, by simp, ?_, by simp only [ld_br, ld_chk', ld_leaf, fd_br, fd_chk', fd_leaf, decide_true, decide_eq_true_eq, if_true, Int.toNat_natCast, Int.natCast_nonneg, Int.ofNat_lt, Int.ofNat_le, Bool.false_eq_true, if_false, bne_iff_ne, beq_iff_eq, ne_eq, not_true_eq_false, not_false_eq_true, Bool.not_eq_true', decide_eq_false_iff_not, reduceCtorEq, rows_length, er_ok, er_ok', dr_er, isRows_rows, toRows_rows, rows_take, rows_drop, rows_append, ints_length, isInts_ints, toInts_ints, ei_i, ei_ok, mk_headD, ints_take, ints_drop, ints_append, ints_snoc, ints_snoc', List.take_length, Nat.zero_add, Nat.le_refl, er_a, er_b, er_k, er_n, er_s, er_v, Nat.lt_irrefl]⟩
     rw [k72_0x1, fd_leaf, <- hi]
theorem row_eqb (x y : Row) : (x.a == y.a && (x.b == y.b && (x.v.k == y.v.k && (x.v.n == y.v.n && (x.v.s == y.v.s && true))))) = decide (x = y) := by
 obtain ⟨a, b, ⟨k, m, s⟩⟩ := x
 obtain ⟨a', b', ⟨k', m', s'⟩⟩ := y
 rw [Bool.eq_iff_iff]
 simp
theorem take_ext {α : Type} {l m : List α} {k : Nat} (h1 : l.take k = m.take k) (hk : k < l.length) (hm : k < m.length) (he : l[k] = m[k]) : l.take (k + 1) = m.take (k + 1) := by
 rw [List.take_succ, List.take_succ, h1, List.getElem?_eq_getElem hk, List.getElem?_eq_getElem hm, he]
theorem f26 (l m : List Row) (nl : OBo) (tt : Bool) (nl2 : OBo) (t2 : Bool) (hl : l.length <= 9223372036854775807) : call E 26 [.c (.sl 5 nl tt (rows l)), .c (.sl 5 nl2 t2 (rows m))] [] = some ([V.b (decide (l = m))], []) := by
 refine call_of (E := E) (sh := sh) (ct := ctOf []) (na := 2) (m := 0) ctOf_nil rfl rfl rfl rfl rfl rfl ?_
 rw [t26]
 simp only [ld_br, ld_chk', ld_leaf, fd_br, fd_chk', fd_leaf, decide_true, decide_eq_true_eq, if_true, Int.toNat_natCast, Int.natCast_nonneg, Int.ofNat_lt, Int.ofNat_le, Bool.false_eq_true, if_false, bne_iff_ne, beq_iff_eq, ne_eq, not_true_eq_false, not_false_eq_true, Bool.not_eq_true', decide_eq_false_iff_not, reduceCtorEq, rows_length, er_ok, er_ok', dr_er, isRows_rows, toRows_rows, rows_take, rows_drop, rows_append, ints_length, isInts_ints, toInts_ints, ei_i, ei_ok, mk_headD, ints_take, ints_drop, ints_append, ints_snoc, ints_snoc', List.take_length, Nat.zero_add, Nat.le_refl, er_a, er_b, er_k, er_n, er_s, er_v]
 by_cases h : l.length = m.length
 · have h' : ¬ ¬ (l.length : Int) = m.length := by omega
   rw [if_neg h']
   refine fd_post ctOf_nil (by kernel_rfl) rfl (list_post ctOf_nil (b := b26_0) l.length (fun k (_ : Unit) => s26_0 nl tt (rows l) nl2 t2 (rows m) k) (fun k _ => l.take k = m.take k) _ ?_ ?_ 0 (Nat.zero_le _) () (by rfl))
   · intro k _ hk hi
     have hm : k < m.length := by omega
     rw [t26_0]
     simp only [ld_br, ld_chk', ld_leaf, fd_br, fd_chk', fd_leaf, decide_true, decide_eq_true_eq, if_true, Int.toNat_natCast, Int.natCast_nonneg, Int.ofNat_lt, Int.ofNat_le, Bool.false_eq_true, if_false, bne_iff_ne, beq_iff_eq, ne_eq, not_true_eq_false, not_false_eq_true, Bool.not_eq_true', decide_eq_false_iff_not, reduceCtorEq, rows_length, er_ok, er_ok', dr_er, isRows_rows, toRows_rows, rows_take, rows_drop, rows_append, ints_length, isInts_ints, toInts_ints, ei_i, ei_ok, mk_headD, ints_take, ints_drop, ints_append, ints_snoc, ints_snoc', List.take_length, Nat.zero_add, Nat.le_refl, er_a, er_b, er_k, er_n, er_s, er_v, hk, hm, rows_getD hk, rows_getD hm, row_eqb, wrap_succ (show k < 9223372036854775807 by omega)]
     by_cases he : l[k] = m[k]
     · left
       exact ⟨(), take_ext hi hk hm he, by simp [he]⟩
     · right
       refine ⟨x26_0x0, by simp, ?_, by simp [he]⟩
       rw [k26_0x0, fd_leaf, decide_eq_false (fun e => he (by subst e; rfl))]
   · intro _ hi
     rw [t26_0]
     refine ⟨x26_0x1 nl tt (rows l) nl2 t2 (rows m) l.length, by simp, ?_, by simp only [ld_br, ld_chk', ld_leaf, fd_br, fd_chk', fd_leaf, decide_true, decide_eq_true_eq, if_true, Int.toNat_natCast, Int.natCast_nonneg, Int.ofNat_lt, Int.ofNat_le, Bool.false_eq_true, if_false, bne_iff_ne, beq_iff_eq, ne_eq, not_true_eq_false, not_false_eq_true, Bool.not_eq_true', decide_eq_false_iff_not, reduceCtorEq, rows_length, er_ok, er_ok', dr_er, isRows_rows, toRows_rows, rows_take, rows_drop, rows_append, ints_length, isInts_ints, toInts_ints, ei_i, ei_ok, mk_headD, ints_take, ints_drop, ints_append, ints_snoc, ints_snoc', List.take_length, Nat.zero_add, Nat.le_refl, er_a, er_b, er_k, er_n, er_s, er_v, Nat.lt_irrefl]⟩
     rw [List.take_length, h, List.take_length] at hi
     rw [k26_0x1, fd_leaf, decide_eq_true hi]
 · have h' : ¬ (l.length : Int) = m.length := by omega
   rw [if_pos h', decide_eq_false (fun e => h (by rw [e]))]
end Go.Proofs.YtgaabjmbnomimaaGreatDoor
namespace Go.Proofs.YtgaabjmbnomimaaGreatDoor
open Go Go.Ev
mutual
def depT : Nd -> Nat
 | .node _ _ kids => depL kids + 1
def depL : List Nd -> Nat
 | [] => 0
 | t :: r => max (depT t) (depL r)
end
theorem depT_eq (t : Nd) : depT t = depL t.kids + 1 := by cases t; rw [depT]; rfl
theorem depL_mem : ∀ {l : List Nd} {t : Nd}, t ∈ l -> depT t <= depL l
 | x :: r, t, h => by
   rw [depL]
   rcases List.mem_cons.1 h with rfl | h
   · exact Nat.le_max_left _ _
   · exact Nat.le_trans (depL_mem h) (Nat.le_max_right _ _)
theorem depL_kid {l : List Nd} {t : Nd} (h : t ∈ l) : depL t.kids < depL l := by
 have := depL_mem h
 rw [depT_eq] at this
 omega
def bsK (l : List Nd) (b : Int) : Nat -> Nat -> Nat -> Nat
 | 0, lo, _ => lo
 | n + 1, lo, hi => if lo < hi then (if hdB (l.getD ((lo + hi) / 2) default).lab < b then bsK l b n ((lo + hi) / 2 + 1) hi else bsK l b n lo ((lo + hi) / 2)) else lo
def posK (l : List Nd) (b : Int) : Nat := bsK l b l.length 0 l.length
def hitK (l : List Nd) (b : Int) : Bool := decide (posK l b < l.length) && decide (hdB (l.getD (posK l b) default).lab = b)
theorem bsK_end (l : List Nd) (b : Int) (n : Nat) {lo hi : Nat} (h : ¬ lo < hi) : bsK l b n lo hi = lo := by
 cases n with
 | zero => rfl
 | succ n => simp only [bsK, if_neg h]
theorem bsK_fuel (l : List Nd) (b : Int) : ∀ (n m lo hi : Nat), hi - lo <= n -> hi - lo <= m -> bsK l b n lo hi = bsK l b m lo hi
 | 0, m, lo, hi, h1, h2 => by rw [bsK_end l b 0 (by omega), bsK_end l b m (by omega)]
 | n + 1, 0, lo, hi, h1, h2 => by rw [bsK_end l b 0 (by omega), bsK_end l b (n + 1) (by omega)]
 | n + 1, m + 1, lo, hi, h1, h2 => by
   simp only [bsK]
   split
   · split
     · exact bsK_fuel l b n m _ _ (by omega) (by omega)
     · exact bsK_fuel l b n m _ _ (by omega) (by omega)
   · rfl
theorem bsK_le (l : List Nd) (b : Int) : ∀ (n lo hi : Nat), lo <= hi -> hi <= l.length -> lo <= bsK l b n lo hi /\ bsK l b n lo hi <= hi
 | 0, lo, hi, h, _ => ⟨Nat.le_refl _, h⟩
 | n + 1, lo, hi, h, h2 => by
   simp only [bsK]
   split
   · split
     · have := bsK_le l b n ((lo + hi) / 2 + 1) hi (by omega) h2; omega
     · have := bsK_le l b n lo ((lo + hi) / 2) (by omega) (by omega); omega
   · omega
theorem posK_le (l : List Nd) (b : Int) : posK l b <= l.length := (bsK_le l b _ 0 _ (Nat.zero_le _) (Nat.le_refl _)).2
def riseK (l : List Nd) : Prop := ∀ i j, i < j -> j < l.length -> hdB (l.getD i default).lab < hdB (l.getD j default).lab
theorem okL_rise : ∀ {l : List Nd} {n : Nat} {f : Int}, okL l n f = true -> riseK l /\ ∀ t ∈ l, f < hdB t.lab
 | [], n, f, _ => ⟨fun i j _ h => by simp at h, by simp⟩
 | t :: r, n, f, h => by
   simp only [okL, Bool.and_eq_true, decide_eq_true_eq] at h
   obtain ⟨k1, k2⟩ := okL_rise h.2
   refine ⟨fun i j hij hj => ?_, fun u hu => ?_⟩
   · cases j with
     | zero => omega
     | succ j =>
       have hj' : j < r.length := by simpa using hj
       cases i with
       | zero =>
         have := k2 (r.getD j default) (by rw [List.getD_eq_getElem?_getD, List.getElem?_eq_getElem hj']; exact List.getElem_mem hj')
         simpa using this
       | succ i => have := k1 i j (by omega) hj'; simpa using this
   · rcases List.mem_cons.1 hu with rfl | hu
     · exact h.1.2
     · have := k2 u hu; omega
theorem bsK_find (l : List Nd) (b : Int) (hs : riseK l) : ∀ (n lo hi : Nat), lo <= hi -> hi <= l.length -> hi - lo <= n -> (∀ i, i < lo -> hdB (l.getD i default).lab < b) -> (∀ i, hi <= i -> i < l.length -> b <= hdB (l.getD i default).lab) →
   (∀ i, i < bsK l b n lo hi -> hdB (l.getD i default).lab < b) /\ (∀ i, bsK l b n lo hi <= i -> i < l.length -> b <= hdB (l.getD i default).lab)
 | 0, lo, hi, h, _, h3, h4, h5 => by
   obtain rfl : lo = hi := by omega
   exact ⟨h4, h5⟩
 | n + 1, lo, hi, h, h2, h3, h4, h5 => by
   simp only [bsK]
   split
   · rename_i hlt
     split
     · rename_i hb
       refine bsK_find l b hs n ((lo + hi) / 2 + 1) hi (by omega) h2 (by omega) (fun i hi' => ?_) h5
       rcases Nat.lt_or_ge i ((lo + hi) / 2) with hlt2 | hge
       · have := hs i _ hlt2 (by omega); omega
       · obtain rfl : i = (lo + hi) / 2 := by omega
         exact hb
     · rename_i hb
       refine bsK_find l b hs n lo ((lo + hi) / 2) (by omega) (by omega) (by omega) h4 (fun i h6 h7 => ?_)
       rcases Nat.lt_or_ge ((lo + hi) / 2) i with hlt2 | hge
       · have := hs _ i hlt2 h7; omega
       · obtain rfl : i = (lo + hi) / 2 := by omega
         omega
   · obtain rfl : lo = hi := by omega
     exact ⟨h4, h5⟩
theorem posK_find {l : List Nd} (hs : riseK l) (b : Int) : (∀ i, i < posK l b -> hdB (l.getD i default).lab < b) /\ (∀ i, posK l b <= i -> i < l.length -> b <= hdB (l.getD i default).lab) :=
 bsK_find l b hs _ 0 _ (Nat.zero_le _) (Nat.le_refl _) (by omega) (fun i h => by omega) (fun i h h2 => by omega)
theorem getD_at' {l : List Nd} {i : Nat} (h : i < l.length) : l.getD i default = l[i] := by simp [List.getD_eq_getElem?_getD, h]
theorem findK_pos {l : List Nd} (hs : riseK l) (hne : ∀ t ∈ l, t.lab ≠ []) (b : UInt8) : findK b l = if h : posK l (b.toNat : Int) < l.length /\ hdB (l.getD (posK l (b.toNat : Int)) default).lab = (b.toNat : Int) then some (l[posK l (b.toNat : Int)]'h.1) else none := by
 obtain ⟨p1, p2⟩ := posK_find hs (b.toNat : Int)
 have hh : ∀ t ∈ l, (t.lab.head? = some b ↔ hdB t.lab = (b.toNat : Int)) := fun t ht => by
   obtain ⟨c, s, e⟩ := head_of_ne (hne t ht)
   rw [e]
   simp only [List.head?_cons, Option.some.injEq, hdB, List.headD_cons]
   constructor
   · rintro rfl; rfl
   · intro h; exact UInt8.toNat_inj.1 (by omega)
 split
 · rename_i h
   rw [getD_at' h.1] at h
   refine List.find?_eq_some_iff_getElem.2 ⟨by simpa using (hh _ (List.getElem_mem h.1)).2 h.2, _, h.1, rfl, fun j hj => ?_⟩
   have := p1 j hj
   rw [getD_at' (by omega)] at this
   have h2 := not_congr (hh _ (List.getElem_mem (show j < l.length by omega)))
   simp only [Bool.not_eq_true', decide_eq_false_iff_not]
   rw [h2]; omega
 · rename_i h
   refine List.find?_eq_none.2 fun t ht => ?_
   simp only [decide_eq_true_eq]
   rw [hh t ht]
   intro e
   obtain ⟨i, hi, rfl⟩ := List.mem_iff_getElem.1 ht
   rcases Nat.lt_or_ge i (posK l (b.toNat : Int)) with h1 | h1
   · have := p1 i h1
     rw [getD_at' hi] at this; omega
   · refine h ⟨by omega, ?_⟩
     rcases Nat.lt_or_ge (posK l (b.toNat : Int)) i with h2 | h2
     · have a1 := p2 (posK l (b.toNat : Int)) (Nat.le_refl _) (by omega)
       have a2 := hs _ i h2 hi
       rw [getD_at' hi] at a2; omega
     · obtain rfl : i = posK l (b.toNat : Int) := by omega
       rw [getD_at' hi]; exact e
theorem hdB_lt (l : Bys) : 0 <= hdB l /\ hdB l <= 255 := by
 unfold hdB
 have := (l.headD 0).toNat_lt
 omega
theorem okL_len : ∀ {l : List Nd} {n : Nat} {f : Int}, okL l n f = true -> f <= 255 -> (l.length : Int) <= 255 - f
 | [], n, f, _, hf => by simp; omega
 | t :: r, n, f, h, hf => by
   simp only [okL, Bool.and_eq_true, decide_eq_true_eq] at h
   have h1 := hdB_lt t.lab
   have h2 := okL_len h.2 h1.2
   rw [List.length_cons]; omega
end Go.Proofs.YtgaabjmbnomimaaGreatDoor
namespace Go.Proofs.YtgaabjmbnomimaaGreatDoor
open Go Go.Ev
def s137 : CSpec := fun a h => match a, h with
 | [.c (.str p), .c (.str q)], [] => some ([], [V.b (begins p q)], [])
 | _, _ => none
noncomputable abbrev p137 : Par := par E sh (ctOf []) 137 2 0
theorem t137 (p : Bys) (q : Bys) : p137.ft ([V.c (C.str p), V.c (C.str q)]) ([]) = (Tr.br (decide ((↑q.length : Int) <= (↑p.length : Int))) (Tr.chk true (Tr.chk true (Tr.chk (decide ((↑q.length : Int).toNat <= p.length)) (Tr.leaf (R.out [V.c (C.bool (List.take (↑q.length : Int).toNat p == q))] []))))) (Tr.leaf (R.out [V.c (C.bool false)] []))) := by kernel_rfl
noncomputable abbrev p77 : Par := par E sh (ctOf [(137, s137)]) 77 2 0
theorem t77 (p : Bys) (q : Bys) : p77.ft ([V.c (C.str p), V.c (C.str q)]) ([]) = (Tr.leaf (R.out [V.c (C.bool (begins p q))] [])) := by kernel_rfl
end Go.Proofs.YtgaabjmbnomimaaGreatDoor
namespace Go.Proofs.YtgaabjmbnomimaaGreatDoor
open Go Go.Ev
theorem rows_ex {xs : List (List C)} (h : isRows xs = true) : ∃ l, xs = rows l := ⟨_, rows_of h⟩
theorem beqL (p q : Bys) : (p == q) = decide (p = q) := by rw [Bool.eq_iff_iff]; simp
theorem begins_iff {s p : List UInt8} : begins s p = true ↔ ∃ t, s = p ++ t := by
 simp only [begins, Bool.and_eq_true, decide_eq_true_eq]
 constructor
 · rintro ⟨h1, h2⟩
   exact ⟨s.drop p.length, by conv => lhs; rw [<- List.take_append_drop p.length s, h2]⟩
 · rintro ⟨t, rfl⟩
   simp
theorem f137 (p q : Bys) : call E 137 [.c (.str p), .c (.str q)] [] = some ([V.b (begins p q)], []) := by
 refine call_of (E := E) (sh := sh) (ct := ctOf []) (na := 2) (m := 0) ctOf_nil rfl rfl rfl rfl rfl rfl ?_
 rw [t137]; simp only [ld_br, ld_chk', ld_leaf, fd_br, fd_chk', fd_leaf, decide_true, decide_eq_true_eq, if_true, Int.toNat_natCast, Int.natCast_nonneg, Int.ofNat_lt, Int.ofNat_le, Bool.false_eq_true, if_false, bne_iff_ne, beq_iff_eq, ne_eq, not_true_eq_false, not_false_eq_true, Bool.not_eq_true', decide_eq_false_iff_not, reduceCtorEq, rows_length, er_ok, er_ok', dr_er, isRows_rows, toRows_rows, rows_take, rows_drop, rows_append, ints_length, isInts_ints, toInts_ints, ei_i, ei_ok, mk_headD, ints_take, ints_drop, ints_append, ints_snoc, ints_snoc', List.take_length, Nat.zero_add, Nat.le_refl, er_a, er_b, er_k, er_n, er_s, er_v, begins]
 by_cases h : q.length <= p.length
 · simp [h, beqL]
 · simp [h]
theorem s137_ok : CSpecOk E 137 s137 := by
 intro a h cs vals h' he hc
 unfold s137 at he
 split at he <;> simp only [Option.some.injEq, Prod.mk.injEq, reduceCtorEq] at he
 obtain ⟨rfl, rfl, rfl⟩ := he
 exact f137 _ _
theorem s137_ok' : CSpecOk E 77 s137 := by
 intro a h cs vals h' he hc
 unfold s137 at he
 split at he <;> simp only [Option.some.injEq, Prod.mk.injEq, reduceCtorEq] at he
 obtain ⟨rfl, rfl, rfl⟩ := he
 refine call_of (E := E) (sh := sh) (ct := ctOf [(137, s137)]) (na := 2) (m := 0) (ctOf_cons s137_ok ctOf_nil) rfl rfl rfl rfl rfl rfl ?_; rw [t77]; rfl
end Go.Proofs.YtgaabjmbnomimaaGreatDoor
namespace Go.Proofs.YtgaabjmbnomimaaGreatDoor
open Go Go.Ev
noncomputable abbrev p136 : Par := par E sh (ctOf []) 136 2 0
theorem t136 (s : Bys) (xs : LLC) (ys : LLC) (b : Int) : p136.ft ([V.agg [V.c (C.str s), V.c (C.sl 5 none false xs), V.c (C.sl 3 none false ys)], V.c (C.int IntKind.u8 b)]) ([]) = (Tr.chk true (Tr.chk (decide (Int.toNat 0 < s.length)) (Tr.leaf (R.out [V.c (C.int IntKind.i64 (IntKind.i64.wrap (IntKind.i64.wrap (↑(s.getD (Int.toNat 0) 0).toNat : Int) - IntKind.i64.wrap b)))] [])))) := by kernel_rfl
def s136 : CSpec := fun a h => match a, h with
 | [.agg [.c (.str s), .c (.sl 5 none false xs), .c (.sl 3 none false ys)], .c (.int .u8 b)], [] => some ([decide (s ≠ []), decide (0 <= b), decide (b <= 255)], [V.i (hdB s - b)], [])
 | _, _ => none
noncomputable abbrev p135 : Par := par E sh (ctOf [(136, s136)]) 135 3 0
abbrev s135_0 (nl : OBo) (tt : Bool) (xs : LLC) (b : Int) (i8 : Int) (i9 : Int) (i10 : Int) : Fr × Hp := ([(0, V.c (C.sl 3 nl tt xs)), (1, V.c (C.int IntKind.u8 b)), (2, V.fn 136 []), (8, V.c (C.int IntKind.i64 i8)), (9, V.c (C.int IntKind.i64 i9)), (10, V.c (C.int IntKind.i64 i10))], [])
noncomputable abbrev b135_0 : Code := loopAt (codeOf E (135)) 0
abbrev x135_0x0 (nl : OBo) (tt : Bool) (xs : LLC) (b : Int) (i8 : Int) (i9 : Int) (i10 : Int) : Ex × Fr × Hp := (Ex.exit 0, [(0, V.c (C.sl 3 nl tt xs)), (1, V.c (C.int IntKind.u8 b)), (2, V.fn 136 []), (8, V.c (C.int IntKind.i64 i8)), (9, V.c (C.int IntKind.i64 i9)), (10, V.c (C.int IntKind.i64 i10)), (17, V.c (C.bool false))], [])
theorem t135_0 (nl : OBo) (tt : Bool) (xs : LLC) (b : Int) (i8 : Int) (i9 : Int) (i10 : Int) : p135.lts b135_0 (s135_0 nl tt xs b i8 i9 i10) = (Tr.br (decide (i9 < i10)) (Tr.chk (decide (0 <= IntKind.i64.wrap (IntKind.u64.wrap (IntKind.i64.wrap (i9 + i10)) / 2 ^ min (Int.toNat 1) IntKind.u64.bits))) (Tr.chk true (Tr.chk (decide ((IntKind.i64.wrap (IntKind.u64.wrap (IntKind.i64.wrap (i9 + i10)) / 2 ^ min (Int.toNat 1) IntKind.u64.bits)).toNat < xs.length)) (Tr.chk (shOk [Sk.str, Sk.sl 5, Sk.sl 3] (xs.getD (IntKind.i64.wrap (IntKind.u64.wrap (IntKind.i64.wrap (i9 + i10)) / 2 ^ min (Int.toNat 1) IntKind.u64.bits)).toNat [])) (Tr.chk (decide (((xs.getD (IntKind.i64.wrap (IntKind.u64.wrap (IntKind.i64.wrap (i9 + i10)) / 2 ^ min (Int.toNat 1) IntKind.u64.bits)).toNat []).headD C.pnil).st ≠ [])) (Tr.chk (decide (0 <= b)) (Tr.chk (decide (b <= 255)) (Tr.br (decide (hdB ((xs.getD (IntKind.i64.wrap (IntKind.u64.wrap (IntKind.i64.wrap (i9 + i10)) / 2 ^ min (Int.toNat 1) IntKind.u64.bits)).toNat []).headD C.pnil).st - b < 0)) (Tr.leaf (R.s (s135_0 nl tt xs b i8 (IntKind.i64.wrap (IntKind.i64.wrap (IntKind.u64.wrap (IntKind.i64.wrap (i9 + i10)) / 2 ^ min (Int.toNat 1) IntKind.u64.bits) + 1)) i10))) (Tr.leaf (R.s (s135_0 nl tt xs b i8 i9 (IntKind.i64.wrap (IntKind.u64.wrap (IntKind.i64.wrap (i9 + i10)) / 2 ^ min (Int.toNat 1) IntKind.u64.bits))))))))))))) (Tr.leaf (R.x (x135_0x0 nl tt xs b i8 i9 i10)))) := by kernel_rfl
theorem k135_0x0 (nl : OBo) (tt : Bool) (xs : LLC) (b : Int) (i8 : Int) (i9 : Int) (i10 : Int) : p135.fkx 0 (x135_0x0 nl tt xs b i8 i9 i10) = (Tr.br (decide (i9 < i8)) (Tr.chk (decide (0 <= i9)) (Tr.chk true (Tr.chk (decide (i9.toNat < xs.length)) (Tr.chk (shOk [Sk.str, Sk.sl 5, Sk.sl 3] (xs.getD i9.toNat [])) (Tr.chk (decide (((xs.getD i9.toNat []).headD C.pnil).st ≠ [])) (Tr.chk (decide (0 <= b)) (Tr.chk (decide (b <= 255)) (Tr.leaf (R.out [V.c (C.int IntKind.i64 i9), V.c (C.bool (hdB ((xs.getD i9.toNat []).headD C.pnil).st - b == 0))] []))))))))) (Tr.leaf (R.out [V.c (C.int IntKind.i64 i9), V.c (C.bool false)] []))) := by kernel_rfl
theorem t135 (nl : OBo) (tt : Bool) (xs : LLC) (b : Int) : p135.ft ([V.c (C.sl 3 nl tt xs), V.c (C.int IntKind.u8 b), V.fn 136 []]) ([]) = (Tr.ls 0 (s135_0 nl tt xs b ((↑xs.length : Int)) (0) ((↑xs.length : Int)))) := by kernel_rfl
def labsOk (l : List Nd) : Bool := l.all fun t => decide (t.lab ≠ [])
def s135 : CSpec := fun a h => match a, h with
 | [.c (.sl 3 nl tt xs), .c (.int .u8 b), .fn 136 []], [] => some ([isL xs, labsOk (decL xs), decide (0 <= b), decide (b <= 255), decide (xs.length < 4294967296)], [V.i (posK (decL xs) b), V.b (hitK (decL xs) b)], [])
 | _, _ => none
noncomputable abbrev p76 : Par := par E sh (ctOf [(135, s135)]) 76 2 0
theorem t76 (nl : OBo) (tt : Bool) (xs : LLC) (b : Int) : p76.ft ([V.c (C.sl 3 nl tt xs), V.c (C.int IntKind.u8 b)]) ([]) = (Tr.chk (isL xs) (Tr.chk (labsOk (decL xs)) (Tr.chk (decide (0 <= b)) (Tr.chk (decide (b <= 255)) (Tr.chk (decide (xs.length < 4294967296)) (Tr.leaf (R.out [V.c (C.int IntKind.i64 (↑(posK (decL xs) b) : Int)), V.c (C.bool (hitK (decL xs) b))] []))))))) := by kernel_rfl
noncomputable abbrev p78 : Par := par E sh (ctOf []) 78 1 0
theorem t78 (tt : Bool) (xs : LLC) : p78.ft ([V.c (C.sl 5 (some false) tt xs)]) ([]) = (Tr.br false (Tr.leaf (R.out [V.c (C.sl 5 none false [])] [])) (Tr.chk true (Tr.chk true (Tr.chk (decide (0 + xs.length < 4294967296)) (Tr.chk true (Tr.leaf (R.out [V.c (C.sl 5 none false (List.take (0 + xs.length) (List.take 0 [] ++ xs)))] []))))))) := by kernel_rfl
theorem t78n (tt : Bool) : p78.ft ([V.c (C.sl 5 (some true) tt [])]) ([]) = (Tr.br true (Tr.leaf (R.out [V.c (C.sl 5 none false [])] [])) (Tr.chk true (Tr.chk true (Tr.chk true (Tr.chk true (Tr.leaf (R.out [V.c (C.sl 5 none false [])] []))))))) := by kernel_rfl
theorem t140c (tt : Bool) (x : List C) (xs : LLC) : p78.ft ([V.c (C.sl 5 none tt (x :: xs))]) ([]) = (Tr.br false (Tr.leaf (R.out [V.c (C.sl 5 none false [])] [])) (Tr.chk true (Tr.chk true (Tr.chk (decide (0 + (x :: xs).length < 4294967296)) (Tr.chk true (Tr.leaf (R.out [V.c (C.sl 5 none false (List.take (0 + (x :: xs).length) (List.take 0 [] ++ x :: xs)))] []))))))) := by kernel_rfl
variable (dd : Nat)
def s101 : CSpec := fun a h => match a, h with
 | [.c (.sl 3 nl tt xs), .c (.int .i64 n)], [] => some ([isL xs, decide (depL (decL xs) < dd), decide (0 <= n), decide (n < 1000000)], [V.b (okL (decL xs) n.toNat (-1))], [])
 | _, _ => none
noncomputable abbrev p101 : Par := par E sh (ctOf [(68, s68), (101, s101 dd)]) 101 2 0
abbrev s101_0 (nl : OBo) (tt : Bool) (xs : LLC) (n : Int) (i5 : Int) (i9 : Int) (i10 : Int) : Fr × Hp := ([(1, V.c (C.int IntKind.i64 n)), (5, V.c (C.int IntKind.i64 i5)), (8, V.c (C.sl 3 nl tt xs)), (9, V.c (C.int IntKind.i64 i9)), (10, V.c (C.int IntKind.i64 i10))], [])
noncomputable abbrev b101_0 : Code := loopAt (codeOf E (101)) 0
abbrev x101_0x0 (sh0 : Bys) (nlh0 : OBo) (xsh0 : LLC) (xsh0_1 : LLC) : Ex × Fr × Hp := (Ex.ret, [(4, V.c (C.bool false))], [O.box [V.c (C.str sh0), V.c (C.sl 5 nlh0 false xsh0), V.c (C.sl 3 nlh0 false xsh0_1)]])
abbrev x101_0x1 (nl : OBo) (tt : Bool) (xs : LLC) (n : Int) (i5 : Int) (i9 : Int) (i10 : Int) : Ex × Fr × Hp := (Ex.exit 0, [(1, V.c (C.int IntKind.i64 n)), (5, V.c (C.int IntKind.i64 i5)), (8, V.c (C.sl 3 nl tt xs)), (9, V.c (C.int IntKind.i64 i9)), (10, V.c (C.int IntKind.i64 i10)), (11, V.c (C.bool false))], [])
theorem t101_0 (nl : OBo) (tt : Bool) (xs : LLC) (n : Int) (i5 : Int) (i9 : Int) (i10 : Int) : (p101 dd).lts b101_0 (s101_0 nl tt xs n i5 i9 i10) = (Tr.br (decide (i10 < i9)) (Tr.chk (decide (0 <= i10)) (Tr.chk true (Tr.chk (decide (i10.toNat < xs.length)) (Tr.chk (shOk [Sk.str, Sk.sl 5, Sk.sl 3] (xs.getD i10.toNat [])) (Tr.br (((xs.getD i10.toNat []).headD C.pnil).st == []) (Tr.leaf (R.x (x101_0x0 (((xs.getD i10.toNat []).headD C.pnil).st) (none) (((xs.getD i10.toNat []).tail.headD C.pnil).xs) (((xs.getD i10.toNat []).tail.tail.headD C.pnil).xs)))) (Tr.br (decide (n < (↑((xs.getD i10.toNat []).headD C.pnil).st.length : Int))) (Tr.leaf (R.x (x101_0x0 (((xs.getD i10.toNat []).headD C.pnil).st) (none) (((xs.getD i10.toNat []).tail.headD C.pnil).xs) (((xs.getD i10.toNat []).tail.tail.headD C.pnil).xs)))) (Tr.chk true (Tr.chk (decide (Int.toNat 0 < ((xs.getD i10.toNat []).headD C.pnil).st.length)) (Tr.br (decide (IntKind.i64.wrap (↑(((xs.getD i10.toNat []).headD C.pnil).st.getD (Int.toNat 0) 0).toNat : Int) <= i5)) (Tr.leaf (R.x (x101_0x0 (((xs.getD i10.toNat []).headD C.pnil).st) (none) (((xs.getD i10.toNat []).tail.headD C.pnil).xs) (((xs.getD i10.toNat []).tail.tail.headD C.pnil).xs)))) (Tr.chk (isRows ((xs.getD i10.toNat []).tail.headD C.pnil).xs) (Tr.br (checkR (toRows ((xs.getD i10.toNat []).tail.headD C.pnil).xs) != 0) (Tr.leaf (R.x (x101_0x0 (((xs.getD i10.toNat []).headD C.pnil).st) (none) (((xs.getD i10.toNat []).tail.headD C.pnil).xs) (((xs.getD i10.toNat []).tail.tail.headD C.pnil).xs)))) (Tr.br ((↑((xs.getD i10.toNat []).tail.headD C.pnil).xs.length : Int) == 0) (Tr.br (decide ((↑((xs.getD i10.toNat []).tail.tail.headD C.pnil).xs.length : Int) < 2)) (Tr.leaf (R.x (x101_0x0 (((xs.getD i10.toNat []).headD C.pnil).st) (none) (((xs.getD i10.toNat []).tail.headD C.pnil).xs) (((xs.getD i10.toNat []).tail.tail.headD C.pnil).xs)))) (Tr.chk (isL ((xs.getD i10.toNat []).tail.tail.headD C.pnil).xs) (Tr.chk (decide (depL (decL ((xs.getD i10.toNat []).tail.tail.headD C.pnil).xs) < dd)) (Tr.chk (decide (0 <= IntKind.i64.wrap (n - (↑((xs.getD i10.toNat []).headD C.pnil).st.length : Int)))) (Tr.chk (decide (IntKind.i64.wrap (n - (↑((xs.getD i10.toNat []).headD C.pnil).st.length : Int)) < 1000000)) (Tr.br (!okL (decL ((xs.getD i10.toNat []).tail.tail.headD C.pnil).xs) (IntKind.i64.wrap (n - (↑((xs.getD i10.toNat []).headD C.pnil).st.length : Int))).toNat (-1)) (Tr.leaf (R.x (x101_0x0 (((xs.getD i10.toNat []).headD C.pnil).st) (none) (((xs.getD i10.toNat []).tail.headD C.pnil).xs) (((xs.getD i10.toNat []).tail.tail.headD C.pnil).xs)))) (Tr.chk true (Tr.chk (decide (Int.toNat 0 < ((xs.getD i10.toNat []).headD C.pnil).st.length)) (Tr.leaf (R.s (s101_0 nl tt xs n (IntKind.i64.wrap (↑(((xs.getD i10.toNat []).headD C.pnil).st.getD (Int.toNat 0) 0).toNat : Int)) i9 (IntKind.i64.wrap (i10 + 1))))))))))))) (Tr.chk (isL ((xs.getD i10.toNat []).tail.tail.headD C.pnil).xs) (Tr.chk (decide (depL (decL ((xs.getD i10.toNat []).tail.tail.headD C.pnil).xs) < dd)) (Tr.chk (decide (0 <= IntKind.i64.wrap (n - (↑((xs.getD i10.toNat []).headD C.pnil).st.length : Int)))) (Tr.chk (decide (IntKind.i64.wrap (n - (↑((xs.getD i10.toNat []).headD C.pnil).st.length : Int)) < 1000000)) (Tr.br (!okL (decL ((xs.getD i10.toNat []).tail.tail.headD C.pnil).xs) (IntKind.i64.wrap (n - (↑((xs.getD i10.toNat []).headD C.pnil).st.length : Int))).toNat (-1)) (Tr.leaf (R.x (x101_0x0 (((xs.getD i10.toNat []).headD C.pnil).st) (none) (((xs.getD i10.toNat []).tail.headD C.pnil).xs) (((xs.getD i10.toNat []).tail.tail.headD C.pnil).xs)))) (Tr.chk true (Tr.chk (decide (Int.toNat 0 < ((xs.getD i10.toNat []).headD C.pnil).st.length)) (Tr.leaf (R.s (s101_0 nl tt xs n (IntKind.i64.wrap (↑(((xs.getD i10.toNat []).headD C.pnil).st.getD (Int.toNat 0) 0).toNat : Int)) i9 (IntKind.i64.wrap (i10 + 1)))))))))))))))))))))))) (Tr.leaf (R.x (x101_0x1 nl tt xs n i5 i9 i10)))) := by kernel_rfl
theorem k101_0x0 (dd : Nat) (sh0 : Bys) (nlh0 : OBo) (xsh0 : LLC) (xsh0_1 : LLC) : (p101 dd).fkx 0 (x101_0x0 sh0 nlh0 xsh0 xsh0_1) = (Tr.leaf (R.out [V.c (C.bool false)] [])) := by kernel_rfl
theorem k101_0x1 (dd : Nat) (nl : OBo) (tt : Bool) (xs : LLC) (n : Int) (i5 : Int) (i9 : Int) (i10 : Int) : (p101 dd).fkx 0 (x101_0x1 nl tt xs n i5 i9 i10) = (Tr.leaf (R.out [V.c (C.bool true)] [])) := by kernel_rfl
theorem t101 (nl : OBo) (tt : Bool) (xs : LLC) (n : Int) : (p101 dd).ft ([V.c (C.sl 3 nl tt xs), V.i n]) ([]) = (Tr.ls 0 (s101_0 nl tt xs n (-1) ((↑xs.length : Int)) (0))) := by kernel_rfl
end Go.Proofs.YtgaabjmbnomimaaGreatDoor
namespace Go.Proofs.YtgaabjmbnomimaaGreatDoor
open Go Go.Ev
theorem nd_ok (t : Nd) : shOk [Sk.str, Sk.sl 5, Sk.sl 3] t.enc = true := by rw [Nd.enc_eq]; rfl
theorem nd_lab (t : Nd) (d : C) : ((t.enc).headD d).st = t.lab := by rw [Nd.enc_eq]; rfl
theorem nd_rows (t : Nd) (d : C) : ((t.enc).tail.headD d).xs = rows t.rows := by rw [Nd.enc_eq]; rfl
theorem nd_kids (t : Nd) (d : C) : ((t.enc).tail.tail.headD d).xs = encL t.kids := by rw [Nd.enc_eq]; rfl
theorem hd_getD (s : Bys) : (((s.getD (Int.toNat 0) 0).toNat : Nat) : Int) = hdB s := by cases s <;> rfl
theorem wrap_hd (s : Bys) : IntKind.wrap .i64 (((s.getD (Int.toNat 0) 0).toNat : Nat) : Int) = hdB s := by
 rw [hd_getD]
 have := hdB_lt s
 exact wrap_same (by omega) (by omega)
theorem hd_pos (s : Bys) : (Int.toNat 0 < s.length) = (s ≠ []) := by
 cases s <;> simp
theorem f136 (s : Bys) (xs ys : LLC) (b : Int) (hs : s ≠ []) (h0 : 0 <= b) (h1 : b <= 255) : call E 136 [.agg [.c (.str s), .c (.sl 5 none false xs), .c (.sl 3 none false ys)], .c (.int .u8 b)] [] = some ([V.i (hdB s - b)], []) := by
 refine call_of (E := E) (sh := sh) (ct := ctOf []) (na := 2) (m := 0) ctOf_nil rfl rfl rfl rfl rfl rfl ?_
 rw [t136]
 have h2 := hdB_lt s
 have w1 : IntKind.wrap .i64 b = b := wrap_same (by omega) (by omega)
 have w2 : IntKind.wrap .i64 (hdB s - b) = hdB s - b := wrap_same (by omega) (by omega)
 simp only [nd_ok, nd_lab, nd_rows, nd_kids, encL_length, isL_enc, decL_enc, wrap_hd, hd_pos, ld_br, ld_chk', ld_leaf, fd_br, fd_chk', fd_leaf, decide_true, decide_eq_true_eq, if_true, Int.toNat_natCast, Int.natCast_nonneg, Int.ofNat_lt, Int.ofNat_le, Bool.false_eq_true, if_false, bne_iff_ne, beq_iff_eq, ne_eq, not_true_eq_false, not_false_eq_true, Bool.not_eq_true', decide_eq_false_iff_not, reduceCtorEq, rows_length, er_ok, er_ok', dr_er, isRows_rows, toRows_rows, rows_take, rows_drop, rows_append, ints_length, isInts_ints, toInts_ints, ei_i, ei_ok, mk_headD, ints_take, ints_drop, ints_append, ints_snoc, ints_snoc', List.take_length, Nat.zero_add, Nat.le_refl, er_a, er_b, er_k, er_n, er_s, er_v, w1, w2, hs]
theorem s136_ok : CSpecOk E 136 s136 := by
 intro a h cs vals h' he hc
 unfold s136 at he
 split at he <;> simp only [Option.some.injEq, Prod.mk.injEq, reduceCtorEq] at he
 rename_i s xs ys b
 obtain ⟨rfl, rfl, rfl⟩ := he
 simp only [allT, Bool.and_true, Bool.and_eq_true, decide_eq_true_eq] at hc
 obtain ⟨h1, h2, h3⟩ := hc
 exact f136 s xs ys b h1 h2 h3
theorem labs_mem {l : List Nd} (h : labsOk l = true) {k : Nat} (hk : k < l.length) : l[k].lab ≠ [] := by
 have := List.all_eq_true.1 h l[k] (List.getElem_mem hk)
 simpa using this
theorem f135 (l : List Nd) (nl : OBo) (tt : Bool) (b : Int) (hl : labsOk l = true) (h0 : 0 <= b) (h1 : b <= 255) (hlen : l.length < 4294967296) : call E 135 [.c (.sl 3 nl tt (encL l)), .c (.int .u8 b), .fn 136 []] [] = some ([V.i (posK l b), V.b (hitK l b)], []) := by
 have hct : (ctOf [(136, s136)]).ok E := ctOf_cons s136_ok ctOf_nil
 refine call_of (E := E) (sh := sh) (ct := ctOf [(136, s136)]) (na := 3) (m := 0) hct rfl rfl rfl rfl rfl rfl ?_
 rw [t135, encL_length]
 refine fd_post hct (by kernel_rfl) rfl (loops_post hct (b := b135_0) (ι := Nat × Nat) (fun i => s135_0 nl tt (encL l) b l.length i.1 i.2) (fun i => i.1 <= i.2 /\ i.2 <= l.length /\ bsK l b (i.2 - i.1) i.1 i.2 = posK l b) (fun i => i.2 - i.1) _ ?_ (0, l.length) ⟨Nat.zero_le _, Nat.le_refl _, rfl⟩)
 rintro ⟨lo, hi⟩ ⟨g1, g2, g18003⟩
 dsimp only at g1 g2 g18003 ⊢
 rw [t135_0]
 by_cases hlt : lo < hi
 · have hm : (lo + hi) / 2 < l.length := by omega
   left
   rw [half_wrap (by omega)]
   have hne := labs_mem hl hm
   simp only [nd_ok, nd_lab, nd_rows, nd_kids, encL_length, isL_enc, decL_enc, wrap_hd, hd_pos, ld_br, ld_chk', ld_leaf, fd_br, fd_chk', fd_leaf, decide_true, decide_eq_true_eq, if_true, Int.toNat_natCast, Int.natCast_nonneg, Int.ofNat_lt, Int.ofNat_le, Bool.false_eq_true, if_false, bne_iff_ne, beq_iff_eq, ne_eq, not_true_eq_false, not_false_eq_true, Bool.not_eq_true', decide_eq_false_iff_not, reduceCtorEq, rows_length, er_ok, er_ok', dr_er, isRows_rows, toRows_rows, rows_take, rows_drop, rows_append, ints_length, isInts_ints, toInts_ints, ei_i, ei_ok, mk_headD, ints_take, ints_drop, ints_append, ints_snoc, ints_snoc', List.take_length, Nat.zero_add, Nat.le_refl, er_a, er_b, er_k, er_n, er_s, er_v, Int.ofNat_lt, hlt, hm, encL_getD hm, hne, h0, h1]
   have e : hi - lo = (hi - lo - 1) + 1 := by omega
   rw [e, bsK, if_pos hlt, getD_at' hm] at g18003
   by_cases hb : hdB l[(lo + hi) / 2].lab < b
   · rw [if_pos hb] at g18003
     refine ⟨((lo + hi) / 2 + 1, hi), ⟨by dsimp only; omega, g2, ?_⟩, by dsimp only; omega, ?_⟩
     · rw [<- g18003]; exact bsK_fuel l b _ _ _ _ (by omega) (by omega)
     · rw [wrap_succ (by omega), if_pos (show hdB l[(lo + hi) / 2].lab - b < 0 by omega)]
   · rw [if_neg hb] at g18003
     refine ⟨(lo, (lo + hi) / 2), ⟨by dsimp only; omega, by dsimp only; omega, ?_⟩, by dsimp only; omega, ?_⟩
     · rw [<- g18003]; exact bsK_fuel l b _ _ _ _ (by omega) (by omega)
     · rw [if_neg (show ¬ hdB l[(lo + hi) / 2].lab - b < 0 by omega)]
 · obtain rfl : lo = hi := by omega
   right
   rw [bsK_end l b _ (by omega)] at g18003
   refine ⟨x135_0x0 nl tt (encL l) b l.length lo lo, by simp, ?_, by simp only [nd_ok, nd_lab, nd_rows, nd_kids, encL_length, isL_enc, decL_enc, wrap_hd, hd_pos, ld_br, ld_chk', ld_leaf, fd_br, fd_chk', fd_leaf, decide_true, decide_eq_true_eq, if_true, Int.toNat_natCast, Int.natCast_nonneg, Int.ofNat_lt, Int.ofNat_le, Bool.false_eq_true, if_false, bne_iff_ne, beq_iff_eq, ne_eq, not_true_eq_false, not_false_eq_true, Bool.not_eq_true', decide_eq_false_iff_not, reduceCtorEq, rows_length, er_ok, er_ok', dr_er, isRows_rows, toRows_rows, rows_take, rows_drop, rows_append, ints_length, isInts_ints, toInts_ints, ei_i, ei_ok, mk_headD, ints_take, ints_drop, ints_append, ints_snoc, ints_snoc', List.take_length, Nat.zero_add, Nat.le_refl, er_a, er_b, er_k, er_n, er_s, er_v, Int.lt_irrefl]⟩
   rw [k135_0x0]
   simp only [nd_ok, nd_lab, nd_rows, nd_kids, encL_length, isL_enc, decL_enc, wrap_hd, hd_pos, ld_br, ld_chk', ld_leaf, fd_br, fd_chk', fd_leaf, decide_true, decide_eq_true_eq, if_true, Int.toNat_natCast, Int.natCast_nonneg, Int.ofNat_lt, Int.ofNat_le, Bool.false_eq_true, if_false, bne_iff_ne, beq_iff_eq, ne_eq, not_true_eq_false, not_false_eq_true, Bool.not_eq_true', decide_eq_false_iff_not, reduceCtorEq, rows_length, er_ok, er_ok', dr_er, isRows_rows, toRows_rows, rows_take, rows_drop, rows_append, ints_length, isInts_ints, toInts_ints, ei_i, ei_ok, mk_headD, ints_take, ints_drop, ints_append, ints_snoc, ints_snoc', List.take_length, Nat.zero_add, Nat.le_refl, er_a, er_b, er_k, er_n, er_s, er_v, Int.ofNat_lt, g18003, hitK]
   by_cases hr : posK l b < l.length
   · have hne := labs_mem hl hr
     have e : (hdB l[posK l b].lab - b == 0) = decide (hdB l[posK l b].lab = b) := by
       rw [Bool.eq_iff_iff]; simp; omega
     simp only [hr, if_true, encL_getD hr, nd_ok, nd_lab, nd_rows, nd_kids, encL_length, isL_enc, decL_enc, wrap_hd, hd_pos, ld_br, ld_chk', ld_leaf, fd_br, fd_chk', fd_leaf, decide_true, decide_eq_true_eq, if_true, Int.toNat_natCast, Int.natCast_nonneg, Int.ofNat_lt, Int.ofNat_le, Bool.false_eq_true, if_false, bne_iff_ne, beq_iff_eq, ne_eq, not_true_eq_false, not_false_eq_true, Bool.not_eq_true', decide_eq_false_iff_not, reduceCtorEq, rows_length, er_ok, er_ok', dr_er, isRows_rows, toRows_rows, rows_take, rows_drop, rows_append, ints_length, isInts_ints, toInts_ints, ei_i, ei_ok, mk_headD, ints_take, ints_drop, ints_append, ints_snoc, ints_snoc', List.take_length, Nat.zero_add, Nat.le_refl, er_a, er_b, er_k, er_n, er_s, er_v, hne, h0, h1, e, getD_at' hr, Bool.true_and]
   · simp only [hr, if_false, decide_false, Bool.false_and]
theorem s135_ok : CSpecOk E 135 s135 := by
 intro a h cs vals h' he hc
 unfold s135 at he
 split at he <;> simp only [Option.some.injEq, Prod.mk.injEq, reduceCtorEq] at he
 rename_i nl tt xs b
 obtain ⟨rfl, rfl, rfl⟩ := he
 simp only [allT, Bool.and_true, Bool.and_eq_true, decide_eq_true_eq] at hc
 obtain ⟨h1, h2, h3, h4, h5⟩ := hc
 obtain ⟨l, rfl⟩ := isL_ex h1
 simp only [decL_enc, encL_length] at *
 exact f135 l nl tt b h2 h3 h4 h5
theorem f76 (l : List Nd) (nl : OBo) (tt : Bool) (b : Int) (hl : labsOk l = true) (h0 : 0 <= b) (h1 : b <= 255) (hlen : l.length < 4294967296) : call E 76 [.c (.sl 3 nl tt (encL l)), .c (.int .u8 b)] [] = some ([V.i (posK l b), V.b (hitK l b)], []) := by
 refine call_of (E := E) (sh := sh) (ct := ctOf [(135, s135)]) (na := 2) (m := 0) (ctOf_cons s135_ok ctOf_nil) rfl rfl rfl rfl rfl rfl ?_
 rw [t76]
 simp only [nd_ok, nd_lab, nd_rows, nd_kids, encL_length, isL_enc, decL_enc, wrap_hd, hd_pos, ld_br, ld_chk', ld_leaf, fd_br, fd_chk', fd_leaf, decide_true, decide_eq_true_eq, if_true, Int.toNat_natCast, Int.natCast_nonneg, Int.ofNat_lt, Int.ofNat_le, Bool.false_eq_true, if_false, bne_iff_ne, beq_iff_eq, ne_eq, not_true_eq_false, not_false_eq_true, Bool.not_eq_true', decide_eq_false_iff_not, reduceCtorEq, rows_length, er_ok, er_ok', dr_er, isRows_rows, toRows_rows, rows_take, rows_drop, rows_append, ints_length, isInts_ints, toInts_ints, ei_i, ei_ok, mk_headD, ints_take, ints_drop, ints_append, ints_snoc, ints_snoc', List.take_length, Nat.zero_add, Nat.le_refl, er_a, er_b, er_k, er_n, er_s, er_v, hl, h0, h1, hlen]
def s78 : CSpec := fun a h => match a, h with
 | [.c (.sl 5 nl tt xs)], [] => some ([decide (xs.length < 4294967296), decide (nl ≠ some true \/ xs = [])], [.c (.sl 5 none false xs)], [])
 | _, _ => none
theorem s78_ok : CSpecOk E 78 s78 := by
 intro a h cs vals h' he hc
 unfold s78 at he
 split at he <;> simp only [Option.some.injEq, Prod.mk.injEq, reduceCtorEq] at he
 rename_i nl tt xs
 obtain ⟨rfl, rfl, rfl⟩ := he
 simp only [allT, Bool.and_true, Bool.and_eq_true, decide_eq_true_eq] at hc
 obtain ⟨hc, hn⟩ := hc
 have some_false : ∀ tt, call E 78 [.c (.sl 5 (some false) tt xs)] [] = some ([.c (.sl 5 none false xs)], []) := fun tt => by
   refine call_of (E := E) (sh := sh) (ct := ctOf []) (na := 1) (m := 0) ctOf_nil rfl rfl rfl rfl rfl rfl ?_
   rw [t78]
   simp [fd_br, fd_chk', fd_leaf, hc]
 match nl, xs, hc, hn, some_false with
 | some false, xs, hc, hn, sf => exact sf tt
 | some true, xs, hc, hn, sf =>
   obtain rfl : xs = [] := by simpa using hn
   refine call_of (E := E) (sh := sh) (ct := ctOf []) (na := 1) (m := 0) ctOf_nil rfl rfl rfl rfl rfl rfl ?_
   rw [t78n]; rfl
 | none, [], hc, hn, sf =>
   refine call_split' (E := E) (a1 := [.c (.sl 5 (some true) true [])]) (a2 := [.c (.sl 5 (some false) tt [])]) rfl rfl rfl rfl rfl ?_ (sf tt) rfl
   refine call_of (E := E) (sh := sh) (ct := ctOf []) (na := 1) (m := 0) ctOf_nil rfl rfl rfl rfl rfl rfl ?_
   rw [t78n]; rfl
 | none, x :: r, hc, hn, sf =>
   refine call_of (E := E) (sh := sh) (ct := ctOf []) (na := 1) (m := 0) ctOf_nil rfl rfl rfl rfl rfl rfl ?_
   rw [t140c]
   simp only [List.length_cons] at hc
   simp [fd_br, fd_chk', fd_leaf, hc]
theorem nil_len {α : Type} (l : List α) : ((l.length : Int) = 0) = (l = []) := by
 cases l <;> simp; omega
theorem okL_cons (t : Nd) (r : List Nd) (n : Nat) (f : Int) : okL (t :: r) n f = (okT t n && decide (f < hdB t.lab) && okL r n (hdB t.lab)) := by rw [okL]
theorem f101 (d : Nat) (ih : CSpecOk E 101 (s101 d)) (l : List Nd) (nl : OBo) (tt : Bool) (n : Int) (hd : depL l < d + 1) (h0 : 0 <= n) (h1 : n < 1000000) : call E 101 [.c (.sl 3 nl tt (encL l)), V.i n] [] = some ([V.b (okL l n.toNat (-1))], []) := by
 have hct : (ctOf [(68, s68), (101, s101 d)]).ok E := ctOf_cons s68_ok (ctOf_cons ih ctOf_nil)
 refine call_of (E := E) (sh := sh) (ct := ctOf [(68, s68), (101, s101 d)]) (na := 2) (m := 0) hct rfl rfl rfl rfl rfl rfl ?_
 show (p101 d).fd ((p101 d).ft _ _) = _
 rw [t101, encL_length]
 refine fd_post hct (by kernel_rfl) rfl (list_post (p := p101 d) hct (b := b101_0) l.length (fun k (f : Int) => s101_0 nl tt (encL l) n f l.length k) (fun k f => okL (l.drop k) n.toNat f = okL l n.toNat (-1) /\ (k : Int) <= f + 1 /\ f <= 255) _ ?_ ?_ 0 (Nat.zero_le _) (-1) ⟨rfl, by simp, by omega⟩)
 · rintro k f hk ⟨hi, hf, hf2⟩
   rw [List.drop_eq_getElem_cons hk, okL_cons, okT_eq] at hi
   have hkid : depL l[k].kids < d := by have := depL_kid (List.getElem_mem hk); omega
   have ex0 : okL l n.toNat (-1) = false -> (p101 d).fd ((p101 d).fkx 0 (x101_0x0 l[k].lab none (rows l[k].rows) (encL l[k].kids))) = some (.out [V.b (okL l n.toNat (-1))] []) := fun h => by rw [k101_0x0, fd_leaf, h]
   have hh := hdB_lt l[k].lab
   rw [t101_0]
   simp only [nd_ok, nd_lab, nd_rows, nd_kids, encL_length, isL_enc, decL_enc, wrap_hd, hd_pos, ld_br, ld_chk', ld_leaf, fd_br, fd_chk', fd_leaf, decide_true, decide_eq_true_eq, if_true, Int.toNat_natCast, Int.natCast_nonneg, Int.ofNat_lt, Int.ofNat_le, Bool.false_eq_true, if_false, bne_iff_ne, beq_iff_eq, ne_eq, not_true_eq_false, not_false_eq_true, Bool.not_eq_true', decide_eq_false_iff_not, reduceCtorEq, rows_length, er_ok, er_ok', dr_er, isRows_rows, toRows_rows, rows_take, rows_drop, rows_append, ints_length, isInts_ints, toInts_ints, ei_i, ei_ok, mk_headD, ints_take, ints_drop, ints_append, ints_snoc, ints_snoc', List.take_length, Nat.zero_add, Nat.le_refl, er_a, er_b, er_k, er_n, er_s, er_v, hk, encL_getD hk, wrap_succ (show k < 9223372036854775807 by omega), rows_length, checkR_ne, isRows_rows, toRows_rows, nil_len]
   by_cases c1 : l[k].lab = []
   · exact .inr ⟨x101_0x0 l[k].lab none (rows l[k].rows) (encL l[k].kids), by simp, ex0 (by rw [<- hi]; simp [c1]), by rw [if_pos c1]⟩
   rw [if_neg c1]
   by_cases c2 : n < l[k].lab.length
   · exact .inr ⟨x101_0x0 l[k].lab none (rows l[k].rows) (encL l[k].kids), by simp, ex0 (by rw [<- hi]; simp [show ¬ l[k].lab.length <= n.toNat by omega]), by rw [if_pos c2]⟩
   rw [if_neg c2, if_pos c1]
   by_cases c3 : hdB l[k].lab <= f
   · exact .inr ⟨x101_0x0 l[k].lab none (rows l[k].rows) (encL l[k].kids), by simp, ex0 (by rw [<- hi]; simp [show ¬ f < hdB l[k].lab by omega]), by rw [if_pos c3]⟩
   rw [if_neg c3]
   by_cases c4 : right l[k].rows = false
   · exact .inr ⟨x101_0x0 l[k].lab none (rows l[k].rows) (encL l[k].kids), by simp, ex0 (by rw [<- hi]; simp [c4]), by rw [if_pos c4]⟩
   rw [if_neg c4]
   rw [Bool.not_eq_false] at c4
   have w1 : IntKind.wrap .i64 (n - (l[k].lab.length : Int)) = ((n.toNat - l[k].lab.length : Nat) : Int) := by rw [wrap_same (by omega) (by omega)]; omega
   have c2' : l[k].lab.length <= n.toNat := by omega
   have c3' : f < hdB l[k].lab := by omega
   have w2 : ((n.toNat - l[k].lab.length : Nat) : Int) < 1000000 := by omega
   simp only [w1, hkid, w2, Int.natCast_nonneg, Int.toNat_natCast, if_true, c1, ne_eq, not_false_eq_true]
   have rest : (l[k].rows ≠ [] \/ 2 <= l[k].kids.length) -> ((∃ s', ((okL (l.drop (k + 1)) n.toNat s' = okL l n.toNat (-1)) /\ ((k + 1 : Nat) : Int) <= s' + 1 /\ s' <= 255) /\ (if okL l[k].kids (n.toNat - l[k].lab.length) (-1) = false then some (R.x (x101_0x0 l[k].lab none (rows l[k].rows) (encL l[k].kids))) else some (R.s (s101_0 nl tt (encL l) n (hdB l[k].lab) l.length ((k + 1 : Nat) : Int)))) = some (R.s (s101_0 nl tt (encL l) n s' l.length ((k + 1 : Nat) : Int)))) \/ (∃ x : Ex × Fr × Hp, x.1 ≠ .nrm /\ (p101 d).fd ((p101 d).fkx 0 x) = some (.out [V.b (okL l n.toNat (-1))] []) /\ (if okL l[k].kids (n.toNat - l[k].lab.length) (-1) = false then some (R.x (x101_0x0 l[k].lab none (rows l[k].rows) (encL l[k].kids))) else some (R.s (s101_0 nl tt (encL l) n (hdB l[k].lab) l.length ((k + 1 : Nat) : Int)))) = some (R.x x))) := by
     intro c5
     have e5 : (decide (l[k].rows ≠ []) || decide (2 <= l[k].kids.length)) = true := by simpa using c5
     by_cases c6 : okL l[k].kids (n.toNat - l[k].lab.length) (-1) = false
     · exact .inr ⟨x101_0x0 l[k].lab none (rows l[k].rows) (encL l[k].kids), by simp, ex0 (by rw [<- hi, c6]; simp), by rw [if_pos c6]⟩
     · rw [Bool.not_eq_false] at c6
       refine .inl ⟨hdB l[k].lab, ⟨?_, by omega, hh.2⟩, by rw [if_neg (by simp [c6])]⟩
       rw [<- hi, c6, c4, e5]; simp [c1, c2', c3']
   by_cases c5 : l[k].rows = []
   · rw [if_pos c5]
     by_cases c6 : (l[k].kids.length : Int) < 2
     · exact .inr ⟨x101_0x0 l[k].lab none (rows l[k].rows) (encL l[k].kids), by simp, ex0 (by rw [<- hi]; simp [c5, show ¬ 2 <= l[k].kids.length by omega]), by rw [if_pos c6]⟩
     · rw [if_neg c6]
       exact rest (.inr (by omega))
   · rw [if_neg c5]
     exact rest (.inl c5)
 · rintro f ⟨hi, hf, hf2⟩
   rw [List.drop_length, okL] at hi
   rw [t101_0]
   exact ⟨x101_0x1 nl tt (encL l) n f l.length l.length, by simp, by rw [k101_0x1, fd_leaf, <- hi], by simp only [nd_ok, nd_lab, nd_rows, nd_kids, encL_length, isL_enc, decL_enc, wrap_hd, hd_pos, ld_br, ld_chk', ld_leaf, fd_br, fd_chk', fd_leaf, decide_true, decide_eq_true_eq, if_true, Int.toNat_natCast, Int.natCast_nonneg, Int.ofNat_lt, Int.ofNat_le, Bool.false_eq_true, if_false, bne_iff_ne, beq_iff_eq, ne_eq, not_true_eq_false, not_false_eq_true, Bool.not_eq_true', decide_eq_false_iff_not, reduceCtorEq, rows_length, er_ok, er_ok', dr_er, isRows_rows, toRows_rows, rows_take, rows_drop, rows_append, ints_length, isInts_ints, toInts_ints, ei_i, ei_ok, mk_headD, ints_take, ints_drop, ints_append, ints_snoc, ints_snoc', List.take_length, Nat.zero_add, Nat.le_refl, er_a, er_b, er_k, er_n, er_s, er_v, Int.lt_irrefl]⟩
theorem s101_ok : ∀ d, CSpecOk E 101 (s101 d)
 | 0 => by
   intro a h cs vals h' he hc
   unfold s101 at he
   split at he <;> simp only [Option.some.injEq, Prod.mk.injEq, reduceCtorEq] at he
   obtain ⟨rfl, rfl, rfl⟩ := he
   simp [allT] at hc
 | d + 1 => by
   intro a h cs vals h' he hc
   unfold s101 at he
   split at he <;> simp only [Option.some.injEq, Prod.mk.injEq, reduceCtorEq] at he
   rename_i nl tt xs n
   obtain ⟨rfl, rfl, rfl⟩ := he
   simp only [allT, Bool.and_true, Bool.and_eq_true, decide_eq_true_eq] at hc
   obtain ⟨h1, h2, h3, h4⟩ := hc
   obtain ⟨l, rfl⟩ := isL_ex h1
   rw [decL_enc] at *
   exact f101 d (s101_ok d) l nl tt n h2 h3 h4
end Go.Proofs.YtgaabjmbnomimaaGreatDoor
namespace Go.Proofs.YtgaabjmbnomimaaGreatDoor
open Go Go.Ev
variable (dd : Nat)
noncomputable abbrev p48 : Par := par E sh (ctOf [(101, s101 dd)]) 48 1 0
theorem t48 (s : Bys) (rn : OBo) (rt : Bool) (xs : LLC) (kn : OBo) (kt : Bool) (ys : LLC) : (p48 dd).ft ([V.agg [V.c (C.str s), V.c (C.sl 5 rn rt xs), V.c (C.sl 3 kn kt ys)]]) ([]) = (Tr.br (!s == []) (Tr.leaf (R.out [V.c (C.int IntKind.i64 2)] [])) (Tr.br (decide (0 < (↑xs.length : Int))) (Tr.leaf (R.out [V.c (C.int IntKind.i64 2)] [])) (Tr.chk (isL ys) (Tr.chk (decide (depL (decL ys) < dd)) (Tr.chk true (Tr.chk true (Tr.br (!okL (decL ys) (Int.toNat 24) (-1)) (Tr.leaf (R.out [V.c (C.int IntKind.i64 2)] [])) (Tr.leaf (R.out [V.c (C.int IntKind.i64 0)] []))))))))) := by kernel_rfl
def checkT (t : Nd) : Int := if okR t = true then 0 else 2
def s48 : CSpec := fun a h => match a, h with
 | [.agg [.c (.str s), .c (.sl 5 rn rt xs), .c (.sl 3 kn kt ys)]], [] => some ([isRows xs, isL ys], [V.i (checkT (.node s (toRows xs) (decL ys)))], [])
 | _, _ => none
def s76 : CSpec := fun a h => match a, h with
 | [.c (.sl 3 nl tt xs), .c (.int .u8 b)], [] => some ([isL xs, labsOk (decL xs), decide (0 <= b), decide (b <= 255), decide (xs.length < 4294967296)], [V.i (posK (decL xs) b), V.b (hitK (decL xs) b)], [])
 | _, _ => none
noncomputable abbrev p27 : Par := par E sh (ctOf [(48, s48), (76, s76), (77, s137), (78, s78)]) 27 2 0
abbrev s27_0 (s : Bys) (rn : OBo) (rt : Bool) (xs : LLC) (kn : OBo) (kt : Bool) (ys : LLC) (q : Bys) : Fr × Hp := ([(1, V.c (C.str q)), (2, V.ptr 0 0 0 0)], [O.box [V.c (C.str s), V.c (C.sl 5 rn rt xs), V.c (C.sl 3 kn kt ys)]])
noncomputable abbrev b27_0 : Code := loopAt (codeOf E (27)) 0
abbrev x27_0x0 (s : Bys) (rn : OBo) (rt : Bool) (xs : LLC) (kn : OBo) (kt : Bool) (ys : LLC) : Ex × Fr × Hp := (Ex.ret, [(4, V.c (C.sl 5 (some true) true []))], [O.box [V.c (C.str s), V.c (C.sl 5 rn rt xs), V.c (C.sl 3 kn kt ys)]])
abbrev x27_0x1 (s : Bys) (rn : OBo) (rt : Bool) (xs : LLC) (kn : OBo) (kt : Bool) (ys : LLC) (q : Bys) : Ex × Fr × Hp := (Ex.exit 0, [(1, V.c (C.str q)), (2, V.ptr 0 0 0 0), (11, V.c (C.bool false))], [O.box [V.c (C.str s), V.c (C.sl 5 rn rt xs), V.c (C.sl 3 kn kt ys)]])
theorem t27_0 (s : Bys) (rn : OBo) (rt : Bool) (xs : LLC) (kn : OBo) (kt : Bool) (ys : LLC) (q : Bys) : p27.lts b27_0 (s27_0 s rn rt xs kn kt ys q) = (Tr.br (!q == []) (Tr.chk true (Tr.chk (decide (Int.toNat 0 < q.length)) (Tr.chk (isL ys) (Tr.chk (labsOk (decL ys)) (Tr.chk true (Tr.chk (decide ((↑(q.getD (Int.toNat 0) 0).toNat : Int) <= 255)) (Tr.chk (decide (ys.length < 4294967296)) (Tr.br (!hitK (decL ys) (↑(q.getD (Int.toNat 0) 0).toNat : Int)) (Tr.leaf (R.x (x27_0x0 s rn rt xs kn kt ys))) (Tr.chk true (Tr.chk true (Tr.chk (decide ((↑(posK (decL ys) (↑(q.getD (Int.toNat 0) 0).toNat : Int)) : Int).toNat < ys.length)) (Tr.chk (shOk [Sk.str, Sk.sl 5, Sk.sl 3] (ys.getD (↑(posK (decL ys) (↑(q.getD (Int.toNat 0) 0).toNat : Int)) : Int).toNat [])) (Tr.br (!begins q ((ys.getD (↑(posK (decL ys) (↑(q.getD (Int.toNat 0) 0).toNat : Int)) : Int).toNat []).headD C.pnil).st) (Tr.leaf (R.x (x27_0x0 s rn rt xs kn kt ys))) (Tr.chk true (Tr.chk true (Tr.chk (decide ((↑(posK (decL ys) (↑(q.getD (Int.toNat 0) 0).toNat : Int)) : Int).toNat < ys.length)) (Tr.chk (shOk [Sk.str, Sk.sl 5, Sk.sl 3] (ys.getD (↑(posK (decL ys) (↑(q.getD (Int.toNat 0) 0).toNat : Int)) : Int).toNat [])) (Tr.chk true (Tr.chk (decide ((↑((ys.getD (↑(posK (decL ys) (↑(q.getD (Int.toNat 0) 0).toNat : Int)) : Int).toNat []).headD C.pnil).st.length : Int).toNat <= q.length)) (Tr.chk (decide (q.length <= q.length)) (Tr.leaf (R.s (s27_0 (((ys.getD (↑(posK (decL ys) (↑(q.getD (Int.toNat 0) 0).toNat : Int)) : Int).toNat []).headD C.pnil).st) (none) false (((ys.getD (↑(posK (decL ys) (↑(q.getD (Int.toNat 0) 0).toNat : Int)) : Int).toNat []).tail.headD C.pnil).xs) (none) false (((ys.getD (↑(posK (decL ys) (↑(q.getD (Int.toNat 0) 0).toNat : Int)) : Int).toNat []).tail.tail.headD C.pnil).xs) (List.drop (↑((ys.getD (↑(posK (decL ys) (↑(q.getD (Int.toNat 0) 0).toNat : Int)) : Int).toNat []).headD C.pnil).st.length : Int).toNat (List.take q.length q))))))))))))))))))))))))) (Tr.leaf (R.x (x27_0x1 s rn rt xs kn kt ys q)))) := by kernel_rfl
theorem k27_0x0 (s : Bys) (rn : OBo) (rt : Bool) (xs : LLC) (kn : OBo) (kt : Bool) (ys : LLC) : p27.fkx 0 (x27_0x0 s rn rt xs kn kt ys) = (Tr.leaf (R.out [V.c (C.sl 5 none false [])] [])) := by kernel_rfl
theorem k27_0x1 (s : Bys) (rn : OBo) (rt : Bool) (xs : LLC) (kn : OBo) (kt : Bool) (ys : LLC) (q : Bys) : p27.fkx 0 (x27_0x1 s rn rt xs kn kt ys q) = (Tr.chk (decide (xs.length < 4294967296)) (Tr.chk (decide (rn ≠ some true \/ xs = [])) (Tr.leaf (R.out [V.c (C.sl 5 none false xs)] [])))) := by kernel_rfl
theorem t27 (s : Bys) (rn : OBo) (rt : Bool) (xs : LLC) (kn : OBo) (kt : Bool) (ys : LLC) (q : Bys) : p27.ft ([V.agg [V.c (C.str s), V.c (C.sl 5 rn rt xs), V.c (C.sl 3 kn kt ys)], V.c (C.str q)]) ([]) = (Tr.chk (isRows xs) (Tr.chk (isL ys) (Tr.br (checkT (Nd.node s (toRows xs) (decL ys)) != 0) (Tr.leaf (R.out [V.c (C.sl 5 none false [])] [])) (Tr.ls 0 (s27_0 s rn rt xs kn kt ys q))))) := by kernel_rfl
def s174 : CSpec := fun a h => match a, h with
 | [.agg [.c (.str s), .c (.sl 5 none false xs), .c (.sl 3 none false ys)], .c (.int .i64 n)], [] => some ([isRows xs, isL ys, decide (depL (decL ys) + 1 < dd), decide (0 <= n), decide (n < 1000000)], [V.b (okT (.node s (toRows xs) (decL ys)) n.toNat)], [])
 | _, _ => none
def s132 : CSpec := fun a h => match a, h with
 | [.agg [.c (.str s), .c (.sl 5 rn rt xs), .c (.sl 3 kn kt ys)], .c (.int .i64 n)], [] => some ([isRows xs, isL ys, decide (depL (decL ys) < dd), decide (0 <= n), decide (n < 1000000)], [V.b (okL (decL ys) n.toNat (-1))], [])
 | _, _ => none
noncomputable abbrev p132 : Par := par E sh (ctOf [(174, s174 dd)]) 132 2 0
abbrev s132_0 (s : Bys) (rn : OBo) (rt : Bool) (xs : LLC) (kn : OBo) (kt : Bool) (ys : LLC) (n : Int) (i5 : Int) : Fr × Hp := ([(1, V.c (C.int IntKind.i64 n)), (2, V.ptr 0 0 0 0), (5, V.c (C.int IntKind.i64 i5))], [O.box [V.c (C.str s), V.c (C.sl 5 rn rt xs), V.c (C.sl 3 kn kt ys)]])
noncomputable abbrev b132_0 : Code := loopAt (codeOf E (132)) 0
abbrev x132_0x0 (s : Bys) (rn : OBo) (rt : Bool) (xs : LLC) (kn : OBo) (kt : Bool) (ys : LLC) : Ex × Fr × Hp := (Ex.ret, [(4, V.c (C.bool false))], [O.box [V.c (C.str s), V.c (C.sl 5 rn rt xs), V.c (C.sl 3 kn kt ys)]])
abbrev x132_0x1 (s : Bys) (rn : OBo) (rt : Bool) (xs : LLC) (kn : OBo) (kt : Bool) (ys : LLC) (n : Int) (i5 : Int) : Ex × Fr × Hp := (Ex.exit 0, [(1, V.c (C.int IntKind.i64 n)), (2, V.ptr 0 0 0 0), (5, V.c (C.int IntKind.i64 i5)), (14, V.c (C.bool false))], [O.box [V.c (C.str s), V.c (C.sl 5 rn rt xs), V.c (C.sl 3 kn kt ys)]])
theorem t132_0 (s : Bys) (rn : OBo) (rt : Bool) (xs : LLC) (kn : OBo) (kt : Bool) (ys : LLC) (n : Int) (i5 : Int) : (p132 dd).lts b132_0 (s132_0 s rn rt xs kn kt ys n i5) = (Tr.br (decide (i5 < (↑ys.length : Int))) (Tr.chk (decide (0 <= i5)) (Tr.chk true (Tr.chk (decide (i5.toNat < ys.length)) (Tr.chk (shOk [Sk.str, Sk.sl 5, Sk.sl 3] (ys.getD i5.toNat [])) (Tr.chk (isRows ((ys.getD i5.toNat []).tail.headD C.pnil).xs) (Tr.chk (isL ((ys.getD i5.toNat []).tail.tail.headD C.pnil).xs) (Tr.chk (decide (depL (decL ((ys.getD i5.toNat []).tail.tail.headD C.pnil).xs) + 1 < dd)) (Tr.chk (decide (0 <= n)) (Tr.chk (decide (n < 1000000)) (Tr.br (!okT (Nd.node ((ys.getD i5.toNat []).headD C.pnil).st (toRows ((ys.getD i5.toNat []).tail.headD C.pnil).xs) (decL ((ys.getD i5.toNat []).tail.tail.headD C.pnil).xs)) n.toNat) (Tr.leaf (R.x (x132_0x0 s rn rt xs kn kt ys))) (Tr.br (decide (0 < i5)) (Tr.chk (decide (0 <= IntKind.i64.wrap (i5 - 1))) (Tr.chk true (Tr.chk (decide ((IntKind.i64.wrap (i5 - 1)).toNat < ys.length)) (Tr.chk (shOk [Sk.str, Sk.sl 5, Sk.sl 3] (ys.getD (IntKind.i64.wrap (i5 - 1)).toNat [])) (Tr.chk true (Tr.chk (decide (Int.toNat 0 < ((ys.getD (IntKind.i64.wrap (i5 - 1)).toNat []).headD C.pnil).st.length)) (Tr.chk (decide (0 <= i5)) (Tr.chk true (Tr.chk (decide (i5.toNat < ys.length)) (Tr.chk (shOk [Sk.str, Sk.sl 5, Sk.sl 3] (ys.getD i5.toNat [])) (Tr.chk true (Tr.chk (decide (Int.toNat 0 < ((ys.getD i5.toNat []).headD C.pnil).st.length)) (Tr.br (decide ((↑(((ys.getD i5.toNat []).headD C.pnil).st.getD (Int.toNat 0) 0).toNat : Int) <= (↑(((ys.getD (IntKind.i64.wrap (i5 - 1)).toNat []).headD C.pnil).st.getD (Int.toNat 0) 0).toNat : Int))) (Tr.leaf (R.x (x132_0x0 s rn rt xs kn kt ys))) (Tr.leaf (R.s (s132_0 s rn rt xs kn kt ys n (IntKind.i64.wrap (i5 + 1)))))))))))))))))) (Tr.leaf (R.s (s132_0 s rn rt xs kn kt ys n (IntKind.i64.wrap (i5 + 1)))))))))))))))) (Tr.leaf (R.x (x132_0x1 s rn rt xs kn kt ys n i5)))) := by kernel_rfl
theorem k132_0x0 (dd : Nat) (s : Bys) (rn : OBo) (rt : Bool) (xs : LLC) (kn : OBo) (kt : Bool) (ys : LLC) : (p132 dd).fkx 0 (x132_0x0 s rn rt xs kn kt ys) = (Tr.leaf (R.out [V.c (C.bool false)] [])) := by kernel_rfl
theorem k132_0x1 (dd : Nat) (s : Bys) (rn : OBo) (rt : Bool) (xs : LLC) (kn : OBo) (kt : Bool) (ys : LLC) (n : Int) (i5 : Int) : (p132 dd).fkx 0 (x132_0x1 s rn rt xs kn kt ys n i5) = (Tr.leaf (R.out [V.c (C.bool true)] [])) := by kernel_rfl
theorem t132 (s : Bys) (rn : OBo) (rt : Bool) (xs : LLC) (kn : OBo) (kt : Bool) (ys : LLC) (n : Int) : (p132 dd).ft ([V.agg [V.c (C.str s), V.c (C.sl 5 rn rt xs), V.c (C.sl 3 kn kt ys)], V.i n]) ([]) = (Tr.br (decide (256 < (↑ys.length : Int))) (Tr.leaf (R.out [V.c (C.bool false)] [])) (Tr.ls 0 (s132_0 s rn rt xs kn kt ys n (0)))) := by kernel_rfl
def s72 : CSpec := fun a h => match a, h with
 | [.c (.sl 5 nl tt xs)], [] => some ([isRows xs], [V.b (right (toRows xs))], [])
 | _, _ => none
noncomputable abbrev p174 : Par := par E sh (ctOf [(72, s72), (132, s132 dd)]) 174 2 0
theorem t174 (s : Bys) (xs : LLC) (ys : LLC) (n : Int) : (p174 dd).ft ([V.agg [V.c (C.str s), V.c (C.sl 5 none false xs), V.c (C.sl 3 none false ys)], V.i n]) ([]) = (Tr.br (s == []) (Tr.leaf (R.out [V.c (C.bool false)] [])) (Tr.br (decide (n < (↑s.length : Int))) (Tr.leaf (R.out [V.c (C.bool false)] [])) (Tr.chk (isRows xs) (Tr.br (!right (toRows xs)) (Tr.leaf (R.out [V.c (C.bool false)] [])) (Tr.br ((↑xs.length : Int) == 0) (Tr.br (decide ((↑ys.length : Int) < 2)) (Tr.leaf (R.out [V.c (C.bool false)] [])) (Tr.chk (isRows xs) (Tr.chk (isL ys) (Tr.chk (decide (depL (decL ys) < dd)) (Tr.chk (decide (0 <= IntKind.i64.wrap (n - (↑s.length : Int)))) (Tr.chk (decide (IntKind.i64.wrap (n - (↑s.length : Int)) < 1000000)) (Tr.leaf (R.out [V.c (C.bool (okL (decL ys) (IntKind.i64.wrap (n - (↑s.length : Int))).toNat (-1)))] [])))))))) (Tr.chk (isRows xs) (Tr.chk (isL ys) (Tr.chk (decide (depL (decL ys) < dd)) (Tr.chk (decide (0 <= IntKind.i64.wrap (n - (↑s.length : Int)))) (Tr.chk (decide (IntKind.i64.wrap (n - (↑s.length : Int)) < 1000000)) (Tr.leaf (R.out [V.c (C.bool (okL (decL ys) (IntKind.i64.wrap (n - (↑s.length : Int))).toNat (-1)))] [])))))))))))) := by kernel_rfl
noncomputable abbrev p70 : Par := par E sh (ctOf [(132, s132 dd)]) 70 1 0
theorem t70 (s : Bys) (rn : OBo) (rt : Bool) (xs : LLC) (kn : OBo) (kt : Bool) (ys : LLC) : (p70 dd).ft ([V.agg [V.c (C.str s), V.c (C.sl 5 rn rt xs), V.c (C.sl 3 kn kt ys)]]) ([]) = (Tr.br (s == []) (Tr.br ((↑xs.length : Int) == 0) (Tr.chk (isRows xs) (Tr.chk (isL ys) (Tr.chk (decide (depL (decL ys) < dd)) (Tr.chk true (Tr.chk true (Tr.leaf (R.out [V.c (C.bool (okL (decL ys) (Int.toNat 24) (-1)))] []))))))) (Tr.leaf (R.out [V.c (C.bool false)] []))) (Tr.leaf (R.out [V.c (C.bool false)] []))) := by kernel_rfl
def s70 : CSpec := fun a h => match a, h with
 | [.agg [.c (.str s), .c (.sl 5 rn rt xs), .c (.sl 3 kn kt ys)]], [] => some ([isRows xs, isL ys], [V.b (okR (.node s (toRows xs) (decL ys)))], [])
 | _, _ => none
def ee (e : Ent) : List C := [.str e.1, .sl 5 none false (rows e.2)]
def ents (l : List Ent) : List (List C) := l.map ee
def pre (a : Bys) (l : List Ent) : List Ent := l.map fun e => (a ++ e.1, e.2)
def s134 : CSpec := fun a h => match a, h with
 | [.agg [.c (.str s), .c (.sl 5 rn rt xs), .c (.sl 3 kn kt ys)], .c (.str q)], [] => some ([isRows xs, isL ys, decide (depL (decL ys) < dd), decide (q.length + s.length <= 24), okL (decL ys) (24 - (q.length + s.length)) (-1), decide ((entT (.node s (toRows xs) (decL ys))).length < 4294967290), decide (rn = none /\ rt = false \/ xs = [])], [.c (.sl 2 none false (ents (pre q (entT (.node s (toRows xs) (decL ys))))))], [])
 | _, _ => none
noncomputable abbrev p134 : Par := par E sh (ctOf [(134, s134 dd)]) 134 2 0
abbrev s134_0 (s : Bys) (rn : OBo) (rt : Bool) (xs : LLC) (kn : OBo) (kt : Bool) (ys : LLC) (s5 : Bys) (n6 : Nat) (i7 : Int) (ys1 : LLC) : Fr × Hp := ([(2, V.ptr 0 0 0 0), (5, V.c (C.str s5)), (6, V.buf 1 0 0 n6), (7, V.c (C.int IntKind.i64 i7))], [O.box [V.c (C.str s), V.c (C.sl 5 rn rt xs), V.c (C.sl 3 kn kt ys)], O.mem 2 0 ys1])
noncomputable abbrev b134_0 : Code := loopAt (codeOf E (134)) 0
abbrev x134_0x0 (s : Bys) (rn : OBo) (rt : Bool) (xs : LLC) (kn : OBo) (kt : Bool) (ys : LLC) (s5 : Bys) (n6 : Nat) (i7 : Int) (ys1 : LLC) : Ex × Fr × Hp := (Ex.exit 0, [(2, V.ptr 0 0 0 0), (5, V.c (C.str s5)), (6, V.buf 1 0 0 n6), (7, V.c (C.int IntKind.i64 i7)), (27, V.c (C.bool false))], [O.box [V.c (C.str s), V.c (C.sl 5 rn rt xs), V.c (C.sl 3 kn kt ys)], O.mem 2 0 ys1])
theorem t134_0 (s : Bys) (rn : OBo) (rt : Bool) (xs : LLC) (kn : OBo) (kt : Bool) (ys : LLC) (s5 : Bys) (n6 : Nat) (i7 : Int) (ys1 : LLC) : (p134 dd).lts b134_0 (s134_0 s rn rt xs kn kt ys s5 n6 i7 ys1) = (Tr.br (decide (i7 < (↑ys.length : Int))) (Tr.chk (decide (0 <= i7)) (Tr.chk true (Tr.chk (decide (i7.toNat < ys.length)) (Tr.chk (shOk [Sk.str, Sk.sl 5, Sk.sl 3] (ys.getD i7.toNat [])) (Tr.chk (isRows ((ys.getD i7.toNat []).tail.headD C.pnil).xs) (Tr.chk (isL ((ys.getD i7.toNat []).tail.tail.headD C.pnil).xs) (Tr.chk (decide (depL (decL ((ys.getD i7.toNat []).tail.tail.headD C.pnil).xs) < dd)) (Tr.chk (decide (s5.length + ((ys.getD i7.toNat []).headD C.pnil).st.length <= 24)) (Tr.chk (okL (decL ((ys.getD i7.toNat []).tail.tail.headD C.pnil).xs) (24 - (s5.length + ((ys.getD i7.toNat []).headD C.pnil).st.length)) (-1)) (Tr.chk (decide ((entT (Nd.node ((ys.getD i7.toNat []).headD C.pnil).st (toRows ((ys.getD i7.toNat []).tail.headD C.pnil).xs) (decL ((ys.getD i7.toNat []).tail.tail.headD C.pnil).xs))).length < 4294967290)) (Tr.chk true (Tr.chk true (Tr.chk true (Tr.chk (decide (n6 + (ents (pre s5 (entT (Nd.node ((ys.getD i7.toNat []).headD C.pnil).st (toRows ((ys.getD i7.toNat []).tail.headD C.pnil).xs) (decL ((ys.getD i7.toNat []).tail.tail.headD C.pnil).xs))))).length < 4294967296)) (Tr.chk true (Tr.leaf (R.s (s134_0 s rn rt xs kn kt ys s5 (n6 + (ents (pre s5 (entT (Nd.node ((ys.getD i7.toNat []).headD C.pnil).st (toRows ((ys.getD i7.toNat []).tail.headD C.pnil).xs) (decL ((ys.getD i7.toNat []).tail.tail.headD C.pnil).xs))))).length) (IntKind.i64.wrap (i7 + 1)) (List.take n6 ys1 ++ ents (pre s5 (entT (Nd.node ((ys.getD i7.toNat []).headD C.pnil).st (toRows ((ys.getD i7.toNat []).tail.headD C.pnil).xs) (decL ((ys.getD i7.toNat []).tail.tail.headD C.pnil).xs))))))))))))))))))))))) (Tr.leaf (R.x (x134_0x0 s rn rt xs kn kt ys s5 n6 i7 ys1)))) := by kernel_rfl
theorem k134_0x0 (dd : Nat) (s : Bys) (rn : OBo) (rt : Bool) (xs : LLC) (kn : OBo) (kt : Bool) (ys : LLC) (s5 : Bys) (n6 : Nat) (i7 : Int) (ys1 : LLC) : (p134 dd).fkx 0 (x134_0x0 s rn rt xs kn kt ys s5 n6 i7 ys1) = (Tr.leaf (R.out [V.c (C.sl 2 none false (List.take n6 ys1))] [])) := by kernel_rfl
theorem t134 (s : Bys) (rn : OBo) (rt : Bool) (xs : LLC) (kn : OBo) (kt : Bool) (ys : LLC) (q : Bys) : (p134 dd).ft ([V.agg [V.c (C.str s), V.c (C.sl 5 rn rt xs), V.c (C.sl 3 kn kt ys)], V.c (C.str q)]) ([]) = (Tr.chk (decide (q.length + s.length < 4294967296)) (Tr.br (decide (0 < (↑xs.length : Int))) (Tr.chk true (Tr.chk true (Tr.chk true (Tr.chk true (Tr.ls 0 (s134_0 s rn rt xs kn kt ys (q ++ s) (1) (0) ([[C.str (q ++ s), C.sl 5 rn rt xs]]))))))) (Tr.ls 0 (s134_0 s rn rt xs kn kt ys (q ++ s) (0) (0) ([]))))) := by kernel_rfl
noncomputable abbrev p75 : Par := par E sh (ctOf [(70, s70), (134, s134 dd)]) 75 1 0
theorem t75 (s : Bys) (rn : OBo) (rt : Bool) (xs : LLC) (kn : OBo) (kt : Bool) (ys : LLC) : (p75 dd).ft ([V.agg [V.c (C.str s), V.c (C.sl 5 rn rt xs), V.c (C.sl 3 kn kt ys)]]) ([]) = (Tr.chk (isRows xs) (Tr.chk (isL ys) (Tr.br (!okR (Nd.node s (toRows xs) (decL ys))) (Tr.leaf (R.out [V.c (C.sl 2 none false [])] [])) (Tr.chk (isRows xs) (Tr.chk (isL ys) (Tr.chk (decide (depL (decL ys) < dd)) (Tr.chk (decide (0 + s.length <= 24)) (Tr.chk (okL (decL ys) (24 - (0 + s.length)) (-1)) (Tr.chk (decide ((entT (Nd.node s (toRows xs) (decL ys))).length < 4294967290)) (Tr.chk (decide (rn = none /\ rt = false \/ xs = [])) (Tr.leaf (R.out [V.c (C.sl 2 none false (ents (pre [] (entT (Nd.node s (toRows xs) (decL ys))))))] [])))))))))))) := by kernel_rfl
def s75 : CSpec := fun a h => match a, h with
 | [.agg [.c (.str s), .c (.sl 5 rn rt xs), .c (.sl 3 kn kt ys)]], [] => some ([isRows xs, isL ys, decide ((entT (.node s (toRows xs) (decL ys))).length < 4294967290)], [.c (.sl 2 none false (ents (if okR (.node s (toRows xs) (decL ys)) = true then entT (.node s (toRows xs) (decL ys)) else [])))], [])
 | _, _ => none
noncomputable abbrev p28 : Par := par E sh (ctOf [(75, s75)]) 28 2 0
abbrev s28_0 (q : Bys) (nl5 : OBo) (t5 : Bool) (xs5 : LLC) (i6 : Int) : Fr × Hp := ([(1, V.c (C.str q)), (5, V.c (C.sl 2 nl5 t5 xs5)), (6, V.c (C.int IntKind.i64 i6))], [])
noncomputable abbrev b28_0 : Code := loopAt (codeOf E (28)) 0
abbrev x28_0x0 (nl4 : OBo) (xs4 : LLC) : Ex × Fr × Hp := (Ex.ret, [(4, V.c (C.sl 5 nl4 false xs4))], [])
abbrev x28_0x1 (q : Bys) (nl5 : OBo) (t5 : Bool) (xs5 : LLC) (i6 : Int) : Ex × Fr × Hp := (Ex.exit 0, [(1, V.c (C.str q)), (5, V.c (C.sl 2 nl5 t5 xs5)), (6, V.c (C.int IntKind.i64 i6)), (12, V.c (C.bool false))], [])
theorem t28_0 (q : Bys) (nl5 : OBo) (t5 : Bool) (xs5 : LLC) (i6 : Int) : p28.lts b28_0 (s28_0 q nl5 t5 xs5 i6) = (Tr.br (decide (i6 < (↑xs5.length : Int))) (Tr.chk (decide (0 <= i6)) (Tr.chk true (Tr.chk (decide (i6.toNat < xs5.length)) (Tr.chk (shOk [Sk.str, Sk.sl 5] (xs5.getD i6.toNat [])) (Tr.br (((xs5.getD i6.toNat []).headD C.pnil).st == q) (Tr.chk (decide (0 <= i6)) (Tr.chk true (Tr.chk (decide (i6.toNat < xs5.length)) (Tr.chk (shOk [Sk.str, Sk.sl 5] (xs5.getD i6.toNat [])) (Tr.leaf (R.x (x28_0x0 (none) (((xs5.getD i6.toNat []).tail.headD C.pnil).xs)))))))) (Tr.leaf (R.s (s28_0 q nl5 t5 xs5 (IntKind.i64.wrap (i6 + 1)))))))))) (Tr.leaf (R.x (x28_0x1 q nl5 t5 xs5 i6)))) := by kernel_rfl
theorem k28_0x0 (nl4 : OBo) (xs4 : LLC) : p28.fkx 0 (x28_0x0 nl4 xs4) = (Tr.leaf (R.out [V.c (C.sl 5 none false xs4)] [])) := by kernel_rfl
theorem k28_0x1 (q : Bys) (nl5 : OBo) (t5 : Bool) (xs5 : LLC) (i6 : Int) : p28.fkx 0 (x28_0x1 q nl5 t5 xs5 i6) = (Tr.leaf (R.out [V.c (C.sl 5 none false [])] [])) := by kernel_rfl
theorem t28 (s : Bys) (rn : OBo) (rt : Bool) (xs : LLC) (kn : OBo) (kt : Bool) (ys : LLC) (q : Bys) : p28.ft ([V.agg [V.c (C.str s), V.c (C.sl 5 rn rt xs), V.c (C.sl 3 kn kt ys)], V.c (C.str q)]) ([]) = (Tr.chk (isRows xs) (Tr.chk (isL ys) (Tr.chk (decide ((entT (Nd.node s (toRows xs) (decL ys))).length < 4294967290)) (Tr.ls 0 (s28_0 q (none) false (ents (if okR (Nd.node s (toRows xs) (decL ys)) = true then entT (Nd.node s (toRows xs) (decL ys)) else [])) (0)))))) := by kernel_rfl
def shortR (l : List Row) : Bool := decide (l.length <= 70) && l.all fun r => decide (r.v.s.length <= 100)
mutual
def lensT : Nd -> Bool
 | .node lab rs kids => decide (lab.length <= 9223372036854775807) && decide (rs.length <= 9223372036854775807) && decide (kids.length <= 9223372036854775807) && lensL kids
def lensL : List Nd -> Bool
 | [] => true
 | t :: r => lensT t && lensL r
end
mutual
def leftT : Nd -> Int -> Int -> Int
 | .node lab rs kids, n, deep => if deep < 1 \/ n - 1 - ((lab.length / 50 : Nat) : Int) < 1 \/ shortR rs = false then 0 else leftL kids (n - 1 - ((lab.length / 50 : Nat) : Int)) (deep - 1)
def leftL : List Nd -> Int -> Int -> Int
 | [], n, _ => n
 | t :: r, n, deep => if 0 < n then leftL r (leftT t n deep) deep else n
end
end Go.Proofs.YtgaabjmbnomimaaGreatDoor
namespace Go.Proofs.YtgaabjmbnomimaaGreatDoor
open Go Go.Ev
theorem okR_node (s : Bys) (rs : List Row) (ks : List Nd) : okR (.node s rs ks) = (decide (s = []) && decide (rs = []) && okL ks 24 (-1)) := rfl
theorem f48 (s : Bys) (rn : OBo) (rt : Bool) (rs : List Row) (kn : OBo) (kt : Bool) (ks : List Nd) : call E 48 [.agg [.c (.str s), .c (.sl 5 rn rt (rows rs)), .c (.sl 3 kn kt (encL ks))]] [] = some ([V.i (checkT (.node s rs ks))], []) := by
 have hct : (ctOf [(101, s101 (depL ks + 1))]).ok E := ctOf_cons (s101_ok _) ctOf_nil
 refine call_of (E := E) (sh := sh) (ct := ctOf [(101, s101 (depL ks + 1))]) (na := 1) (m := 0) hct rfl rfl rfl rfl rfl rfl ?_
 show (p48 (depL ks + 1)).fd ((p48 (depL ks + 1)).ft _ _) = _
 rw [t48]
 simp only [nd_ok, nd_lab, nd_rows, nd_kids, encL_length, isL_enc, decL_enc, wrap_hd, hd_pos, ld_br, ld_chk', ld_leaf, fd_br, fd_chk', fd_leaf, decide_true, decide_eq_true_eq, if_true, Int.toNat_natCast, Int.natCast_nonneg, Int.ofNat_lt, Int.ofNat_le, Bool.false_eq_true, if_false, bne_iff_ne, beq_iff_eq, ne_eq, not_true_eq_false, not_false_eq_true, Bool.not_eq_true', decide_eq_false_iff_not, reduceCtorEq, rows_length, er_ok, er_ok', dr_er, isRows_rows, toRows_rows, rows_take, rows_drop, rows_append, ints_length, isInts_ints, toInts_ints, ei_i, ei_ok, mk_headD, ints_take, ints_drop, ints_append, ints_snoc, ints_snoc', List.take_length, Nat.zero_add, Nat.le_refl, er_a, er_b, er_k, er_n, er_s, er_v, rows_length, show depL ks < depL ks + 1 by omega, checkT, okR_node]
 by_cases c1 : s = []
 · by_cases c2 : rs = []
   · have e24 : Int.toNat 24 = 24 := rfl
     simp only [c1, c2, List.length_nil, Int.natCast_zero, Int.lt_irrefl, if_false, not_true_eq_false, decide_true, Bool.true_and, e24]
     cases okL ks 24 (-1) <;> simp
   · have h : (0 : Int) < rs.length := by have := List.length_pos_iff.2 c2; omega
     simp only [c1, c2, h, not_true_eq_false, if_false, if_true, decide_false, Bool.and_false, Bool.false_and, Bool.false_eq_true]
     simp
 · simp [c1]
theorem s48_ok : CSpecOk E 48 s48 := by
 intro a h cs vals h' he hc
 unfold s48 at he
 split at he <;> simp only [Option.some.injEq, Prod.mk.injEq, reduceCtorEq] at he
 rename_i s rn rt xs kn kt ys
 obtain ⟨rfl, rfl, rfl⟩ := he
 simp only [allT, Bool.and_true, Bool.and_eq_true, decide_eq_true_eq] at hc
 obtain ⟨h1, h2⟩ := hc
 obtain ⟨rs, rfl⟩ := rows_ex h1
 obtain ⟨ks, rfl⟩ := isL_ex h2
 simp only [toRows_rows, decL_enc]
 exact f48 s rn rt rs kn kt ks
theorem s76_ok : CSpecOk E 76 s76 := by
 intro a h cs vals h' he hc
 unfold s76 at he
 split at he <;> simp only [Option.some.injEq, Prod.mk.injEq, reduceCtorEq] at he
 rename_i nl tt xs b
 obtain ⟨rfl, rfl, rfl⟩ := he
 simp only [allT, Bool.and_true, Bool.and_eq_true, decide_eq_true_eq] at hc
 obtain ⟨h1, h2, h3, h4, h5⟩ := hc
 obtain ⟨l, rfl⟩ := isL_ex h1
 simp only [decL_enc, encL_length] at *
 exact f76 l nl tt b h2 h3 h4 h5
theorem right_len4 {l : List Row} (h : right l = true) : l.length <= 64 := by
 simp only [right, Bool.and_eq_true, decide_eq_true_eq] at h; exact h.1
theorem okL_labs {l : List Nd} {n : Nat} {f : Int} (h : okL l n f = true) : labsOk l = true :=
 List.all_eq_true.2 fun t ht => by simpa using (okT_lab (okL_mem h t ht).1).1
theorem okT_right {t : Nd} {n : Nat} (h : okT t n = true) : right t.rows = true := by
 rw [okT_eq] at h
 simp only [Bool.and_eq_true] at h
 exact h.1.1.2
theorem getW_eq (t : Nd) (b : UInt8) (p : Bys) (n : Nat) (hk : okL t.kids n (-1) = true) :
   getW (p.length + 1) t (b :: p) = if hitK t.kids (b.toNat : Int) = true then (if begins (b :: p) (t.kids.getD (posK t.kids (b.toNat : Int)) default).lab = true then getW p.length (t.kids.getD (posK t.kids (b.toNat : Int)) default) ((b :: p).drop (t.kids.getD (posK t.kids (b.toNat : Int)) default).lab.length) else []) else [] := by
 rw [getW]
 rw [findK_pos (okL_rise hk).1 (fun t ht => (okT_lab (okL_mem hk t ht).1).1)]
 unfold hitK
 by_cases h1 : posK t.kids (b.toNat : Int) < t.kids.length
 · by_cases h2 : hdB (t.kids.getD (posK t.kids (b.toNat : Int)) default).lab = (b.toNat : Int)
   · rw [dif_pos ⟨h1, h2⟩]
     simp only [h1, h2, decide_true, Bool.and_self, if_true]
     simp only [getD_at' h1]
     by_cases h3 : begins (b :: p) t.kids[posK t.kids (b.toNat : Int)].lab = true
     · rw [if_pos h3, if_pos]
       obtain ⟨s, hs⟩ := begins_iff.1 h3
       exact ⟨s, hs.symm⟩
     · rw [if_neg h3, if_neg]
       rintro ⟨s, hs⟩
       exact h3 (begins_iff.2 ⟨s, hs.symm⟩)
   · rw [dif_neg (fun h => h2 h.2)]
     simp only [h1, h2, decide_true, decide_false, Bool.true_and, Bool.false_eq_true, if_false]
 · rw [dif_neg (fun h => h1 h.1)]
   simp only [h1, decide_false, Bool.false_and, Bool.false_eq_true, if_false]
theorem getW_fuel : ∀ (n m : Nat) (t : Nd) (p : Bys) (k : Nat), okL t.kids k (-1) = true -> p.length <= n -> p.length <= m -> getW n t p = getW m t p
 | n, m, t, [], k, _, _, _ => by cases n <;> cases m <;> rfl
 | 0, m, t, b :: p, k, _, h, _ => by simp at h
 | n + 1, 0, t, b :: p, k, _, _, h => by simp at h
 | n + 1, m + 1, t, b :: p, k, hk, h1, h2 => by
   simp only [getW]
   cases hf : findK b t.kids with
   | none => rfl
   | some x =>
     have hm : x ∈ t.kids := List.mem_of_find?_eq_some hf
     have hx := okT_lab (okL_mem hk x hm).1
     simp only
     split
     · refine getW_fuel n m x _ _ hx.2.2 ?_ ?_ <;>
       · have := List.length_pos_iff.2 hx.1
         simp only [List.length_drop, List.length_cons] at h1 h2 ⊢; omega
     · rfl
theorem f27 (s : Bys) (rn : OBo) (rt : Bool) (rs : List Row) (kn : OBo) (kt : Bool) (ks : List Nd) (q : Bys) : call E 27 [.agg [.c (.str s), .c (.sl 5 rn rt (rows rs)), .c (.sl 3 kn kt (encL ks))], .c (.str q)] [] = some ([.c (.sl 5 none false (rows (getR (.node s rs ks) q)))], []) := by
 have hct : (ctOf [(48, s48), (76, s76), (77, s137), (78, s78)]).ok E := ctOf_cons s48_ok (ctOf_cons s76_ok (ctOf_cons s137_ok' (ctOf_cons s78_ok ctOf_nil)))
 refine call_of (E := E) (sh := sh) (ct := ctOf [(48, s48), (76, s76), (77, s137), (78, s78)]) (na := 2) (m := 0) hct rfl rfl rfl rfl rfl rfl ?_
 rw [t27]
 simp only [nd_ok, nd_lab, nd_rows, nd_kids, encL_length, isL_enc, decL_enc, wrap_hd, hd_pos, ld_br, ld_chk', ld_leaf, fd_br, fd_chk', fd_leaf, decide_true, decide_eq_true_eq, if_true, Int.toNat_natCast, Int.natCast_nonneg, Int.ofNat_lt, Int.ofNat_le, Bool.false_eq_true, if_false, bne_iff_ne, beq_iff_eq, ne_eq, not_true_eq_false, not_false_eq_true, Bool.not_eq_true', decide_eq_false_iff_not, reduceCtorEq, rows_length, er_ok, er_ok', dr_er, isRows_rows, toRows_rows, rows_take, rows_drop, rows_append, ints_length, isInts_ints, toInts_ints, ei_i, ei_ok, mk_headD, ints_take, ints_drop, ints_append, ints_snoc, ints_snoc', List.take_length, Nat.zero_add, Nat.le_refl, er_a, er_b, er_k, er_n, er_s, er_v, checkT]
 by_cases ho : okR (.node s rs ks) = true
 case neg =>
   rw [if_neg ho, if_pos (by decide)]
   unfold getR
   rw [if_neg ho]; rfl
 rw [if_pos ho, if_neg (by decide)]
 have ho' := ho
 rw [okR_node] at ho'
 simp only [Bool.and_eq_true, decide_eq_true_eq] at ho'
 obtain ⟨⟨rfl, rfl⟩, hk⟩ := ho'
 have hg : getR (.node [] [] ks) q = getW q.length (.node [] [] ks) q := by unfold getR; rw [if_pos ho]
 rw [hg]
 refine fd_post hct (by kernel_rfl) rfl (loops_post hct (b := b27_0) (ι := Nd × (Option Bool × Bool × Option Bool × Bool) × List UInt8) (fun i => s27_0 i.1.lab i.2.1.1 i.2.1.2.1 (rows i.1.rows) i.2.1.2.2.1 i.2.1.2.2.2 (encL i.1.kids) i.2.2)
   (fun i => getW i.2.2.length i.1 i.2.2 = getW q.length (.node [] [] ks) q /\ (∃ n, okL i.1.kids n (-1) = true) /\ i.1.rows.length < 4294967296 /\ (i.2.1.1 ≠ some true \/ i.1.rows = []))
   (fun i => i.2.2.length) _ ?_ (.node [] [] ks, (rn, rt, kn, kt), q) ⟨rfl, ⟨24, hk⟩, by simp [Nd.rows], .inr rfl⟩)
 rintro ⟨t, ⟨rn, rt, kn, kt⟩, p⟩ ⟨h1, ⟨n, hn⟩, h3, h4⟩
 dsimp only at h1 hn h3 h4 ⊢
 rw [t27_0]
 cases p with
 | nil =>
   right
   refine ⟨x27_0x1 t.lab rn rt (rows t.rows) kn kt (encL t.kids) [], by simp, ?_, by simp only [nd_ok, nd_lab, nd_rows, nd_kids, encL_length, isL_enc, decL_enc, wrap_hd, hd_pos, ld_br, ld_chk', ld_leaf, fd_br, fd_chk', fd_leaf, decide_true, decide_eq_true_eq, if_true, Int.toNat_natCast, Int.natCast_nonneg, Int.ofNat_lt, Int.ofNat_le, Bool.false_eq_true, if_false, bne_iff_ne, beq_iff_eq, ne_eq, not_true_eq_false, not_false_eq_true, Bool.not_eq_true', decide_eq_false_iff_not, reduceCtorEq, rows_length, er_ok, er_ok', dr_er, isRows_rows, toRows_rows, rows_take, rows_drop, rows_append, ints_length, isInts_ints, toInts_ints, ei_i, ei_ok, mk_headD, ints_take, ints_drop, ints_append, ints_snoc, ints_snoc', List.take_length, Nat.zero_add, Nat.le_refl, er_a, er_b, er_k, er_n, er_s, er_v]; simp⟩
   have e1 : getW 0 t [] = t.rows := rfl
   rw [List.length_nil, e1] at h1
   have h4' : rn ≠ some true \/ rows t.rows = [] := by
     rcases h4 with h | h
     · exact .inl h
     · right; rw [h]; rfl
   rw [k27_0x1]
   simp only [ld_br, ld_chk', ld_leaf, fd_br, fd_chk', fd_leaf, decide_true, decide_eq_true_eq, if_true, Int.toNat_natCast, Int.natCast_nonneg, Int.ofNat_lt, Int.ofNat_le, Bool.false_eq_true, if_false, bne_iff_ne, beq_iff_eq, ne_eq, not_true_eq_false, not_false_eq_true, Bool.not_eq_true', decide_eq_false_iff_not, reduceCtorEq, rows_length, er_ok, er_ok', dr_er, isRows_rows, toRows_rows, rows_take, rows_drop, rows_append, ints_length, isInts_ints, toInts_ints, ei_i, ei_ok, mk_headD, ints_take, ints_drop, ints_append, ints_snoc, ints_snoc', List.take_length, Nat.zero_add, Nat.le_refl, er_a, er_b, er_k, er_n, er_s, er_v, h3]
   rw [if_pos h4', h1]
 | cons b p =>
   have hb : (((b :: p).getD (Int.toNat 0) 0).toNat : Int) = (b.toNat : Int) := rfl
   have hb2 : (b.toNat : Int) <= 255 := by have := b.toNat_lt; omega
   have hlen := okL_len hn (by omega)
   rw [List.length_cons, getW_eq t b p n hn] at h1
   have hne : b :: p ≠ [] := by simp
   have hq : (b :: p == []) = false := rfl
   simp only [nd_ok, nd_lab, nd_rows, nd_kids, encL_length, isL_enc, decL_enc, wrap_hd, hd_pos, ld_br, ld_chk', ld_leaf, fd_br, fd_chk', fd_leaf, decide_true, decide_eq_true_eq, if_true, Int.toNat_natCast, Int.natCast_nonneg, Int.ofNat_lt, Int.ofNat_le, Bool.false_eq_true, if_false, bne_iff_ne, beq_iff_eq, ne_eq, not_true_eq_false, not_false_eq_true, Bool.not_eq_true', decide_eq_false_iff_not, reduceCtorEq, rows_length, er_ok, er_ok', dr_er, isRows_rows, toRows_rows, rows_take, rows_drop, rows_append, ints_length, isInts_ints, toInts_ints, ei_i, ei_ok, mk_headD, ints_take, ints_drop, ints_append, ints_snoc, ints_snoc', List.take_length, Nat.zero_add, Nat.le_refl, er_a, er_b, er_k, er_n, er_s, er_v, hq, if_true, hb, hb2, okL_labs hn, hne, show t.kids.length < 4294967296 by omega, Int.natCast_nonneg]
   by_cases g1 : hitK t.kids (b.toNat : Int) = true
   · have hp : posK t.kids (b.toNat : Int) < t.kids.length := by
       unfold hitK at g1
       simp only [Bool.and_eq_true, decide_eq_true_eq] at g1
       exact g1.1
     rw [if_pos g1, getD_at' hp] at h1
     simp only [g1, Bool.true_eq_false, if_false, hp, encL_getD hp, nd_ok, nd_lab, nd_rows, nd_kids, encL_length, isL_enc, decL_enc, wrap_hd, hd_pos, ld_br, ld_chk', ld_leaf, fd_br, fd_chk', fd_leaf, decide_true, decide_eq_true_eq, if_true, Int.toNat_natCast, Int.natCast_nonneg, Int.ofNat_lt, Int.ofNat_le, Bool.false_eq_true, if_false, bne_iff_ne, beq_iff_eq, ne_eq, not_true_eq_false, not_false_eq_true, Bool.not_eq_true', decide_eq_false_iff_not, reduceCtorEq, rows_length, er_ok, er_ok', dr_er, isRows_rows, toRows_rows, rows_take, rows_drop, rows_append, ints_length, isInts_ints, toInts_ints, ei_i, ei_ok, mk_headD, ints_take, ints_drop, ints_append, ints_snoc, ints_snoc', List.take_length, Nat.zero_add, Nat.le_refl, er_a, er_b, er_k, er_n, er_s, er_v]
     by_cases g2 : begins (b :: p) t.kids[posK t.kids (b.toNat : Int)].lab = true
     · rw [if_pos g2] at h1
       have hk1 := (okL_mem hn _ (List.getElem_mem hp)).1
       have hx := okT_lab hk1
       have hle : t.kids[posK t.kids (b.toNat : Int)].lab.length <= (b :: p).length := by
         obtain ⟨z, hz⟩ := begins_iff.1 g2
         rw [hz]; simp
       have hpos := List.length_pos_iff.2 hx.1
       left
       refine ⟨(t.kids[posK t.kids (b.toNat : Int)], (none, false, none, false), (b :: p).drop t.kids[posK t.kids (b.toNat : Int)].lab.length), ⟨?_, ⟨_, hx.2.2⟩, ?_, .inl (by simp)⟩, ?_, ?_⟩
       · rw [<- h1]
         exact getW_fuel _ _ _ _ _ hx.2.2 (Nat.le_refl _) (by simp only [List.length_drop, List.length_cons]; omega)
       · have := right_len4 (okT_right hk1); dsimp only; omega
       · simp only [List.length_drop, List.length_cons]; omega
       · simp only [g2, Bool.true_eq_false, if_false, hle, if_true, List.take_length, Nat.le_refl]
     · rw [if_neg g2] at h1
       rw [Bool.not_eq_true] at g2
       right
       exact ⟨x27_0x0 t.lab rn rt (rows t.rows) kn kt (encL t.kids), by simp, by rw [k27_0x0, fd_leaf, <- h1]; rfl, by simp only [g2, if_true]⟩
   · rw [if_neg g1] at h1
     rw [Bool.not_eq_true] at g1
     right
     exact ⟨x27_0x0 t.lab rn rt (rows t.rows) kn kt (encL t.kids), by simp, by rw [k27_0x0, fd_leaf, <- h1]; rfl, by simp only [g1, if_true]⟩
def s27 : CSpec := fun a h => match a, h with
 | [.agg [.c (.str s), .c (.sl 5 rn rt xs), .c (.sl 3 kn kt ys)], .c (.str q)], [] => some ([isRows xs, isL ys], [.c (.sl 5 none false (rows (getR (.node s (toRows xs) (decL ys)) q)))], [])
 | _, _ => none
theorem s27_ok : CSpecOk E 27 s27 := by
 intro a h cs vals h' he hc
 unfold s27 at he
 split at he <;> simp only [Option.some.injEq, Prod.mk.injEq, reduceCtorEq] at he
 rename_i s rn rt xs kn kt ys q
 obtain ⟨rfl, rfl, rfl⟩ := he
 simp only [allT, Bool.and_true, Bool.and_eq_true, decide_eq_true_eq] at hc
 obtain ⟨h1, h2⟩ := hc
 obtain ⟨rs, rfl⟩ := rows_ex h1
 obtain ⟨ks, rfl⟩ := isL_ex h2
 simp only [toRows_rows, decL_enc]
 exact f27 s rn rt rs kn kt ks q
theorem okT_node (s : Bys) (rs : List Row) (ks : List Nd) (n : Nat) : okT (.node s rs ks) n = (decide (s ≠ []) && decide (s.length <= n) && right rs && (decide (rs ≠ []) || decide (2 <= ks.length)) && okL ks (n - s.length) (-1)) := okT_eq _ _
theorem s72_ok : CSpecOk E 72 s72 := by
 intro a h cs vals h' he hc
 unfold s72 at he
 split at he <;> simp only [Option.some.injEq, Prod.mk.injEq, reduceCtorEq] at he
 rename_i nl tt xs
 obtain ⟨rfl, rfl, rfl⟩ := he
 simp only [allT, Bool.and_true] at hc
 obtain ⟨l, rfl⟩ := rows_ex hc
 rw [toRows_rows]
 exact f72 l nl tt
theorem f174 (d : Nat) (ih : CSpecOk E 132 (s132 d)) (s : Bys) (rs : List Row) (ks : List Nd) (n : Int) (hd : depL ks < d) (h0 : 0 <= n) (h1 : n < 1000000) : call E 174 [.agg [.c (.str s), .c (.sl 5 none false (rows rs)), .c (.sl 3 none false (encL ks))], V.i n] [] = some ([V.b (okT (.node s rs ks) n.toNat)], []) := by
 have hct : (ctOf [(72, s72), (132, s132 d)]).ok E := ctOf_cons s72_ok (ctOf_cons ih ctOf_nil)
 refine call_of (E := E) (sh := sh) (ct := ctOf [(72, s72), (132, s132 d)]) (na := 2) (m := 0) hct rfl rfl rfl rfl rfl rfl ?_
 show (p174 d).fd ((p174 d).ft _ _) = _
 rw [t174]
 simp only [nd_ok, nd_lab, nd_rows, nd_kids, encL_length, isL_enc, decL_enc, wrap_hd, hd_pos, ld_br, ld_chk', ld_leaf, fd_br, fd_chk', fd_leaf, decide_true, decide_eq_true_eq, if_true, Int.toNat_natCast, Int.natCast_nonneg, Int.ofNat_lt, Int.ofNat_le, Bool.false_eq_true, if_false, bne_iff_ne, beq_iff_eq, ne_eq, not_true_eq_false, not_false_eq_true, Bool.not_eq_true', decide_eq_false_iff_not, reduceCtorEq, rows_length, er_ok, er_ok', dr_er, isRows_rows, toRows_rows, rows_take, rows_drop, rows_append, ints_length, isInts_ints, toInts_ints, ei_i, ei_ok, mk_headD, ints_take, ints_drop, ints_append, ints_snoc, ints_snoc', List.take_length, Nat.zero_add, Nat.le_refl, er_a, er_b, er_k, er_n, er_s, er_v, rows_length, nil_len, hd, okT_node]
 by_cases c1 : s = []
 · simp [c1]
 rw [if_neg c1]
 by_cases c2 : n < s.length
 · have : ¬ s.length <= n.toNat := by omega
   simp [c2, this]
 rw [if_neg c2]
 have c2' : s.length <= n.toNat := by omega
 by_cases c3 : right rs = false
 · simp [c3]
 rw [if_neg c3]
 rw [Bool.not_eq_false] at c3
 have w1 : IntKind.wrap .i64 (n - (s.length : Int)) = ((n.toNat - s.length : Nat) : Int) := by rw [wrap_same (by omega) (by omega)]; omega
 have w2 : ((n.toNat - s.length : Nat) : Int) < 1000000 := by omega
 simp only [w1, w2, Int.natCast_nonneg, Int.toNat_natCast, if_true]
 by_cases c5 : rs = []
 · by_cases c6 : (ks.length : Int) < 2
   · have : ¬ 2 <= ks.length := by omega
     simp [c5, c6, this]
   · have : 2 <= ks.length := by omega
     rw [if_pos c5, if_neg c6]
     simp [c1, c2', c3, this]
 · rw [if_neg c5]
   simp [c1, c2', c3, c5]
def prevK (l : List Nd) (k : Nat) : Int := if k = 0 then -1 else hdB (l.getD (k - 1) default).lab
theorem prevK_succ {l : List Nd} {k : Nat} (h : k < l.length) : prevK l (k + 1) = hdB l[k].lab := by simp only [prevK, Nat.add_sub_cancel]; rw [if_neg (by omega), getD_at' h]
theorem nd_node (t : Nd) : Nd.node t.lab t.rows t.kids = t := Nd.eta t
theorem byte_lab (s : Bys) : (((s.getD (Int.toNat 0) 0).toNat : Nat) : Int) = hdB s := hd_getD s
theorem f132 (d : Nat) (ih : CSpecOk E 174 (s174 d)) (s : Bys) (rn : OBo) (rt : Bool) (rs : List Row) (kn : OBo) (kt : Bool) (ks : List Nd) (n : Int) (hd : depL ks < d) (h0 : 0 <= n) (h1 : n < 1000000) : call E 132 [.agg [.c (.str s), .c (.sl 5 rn rt (rows rs)), .c (.sl 3 kn kt (encL ks))], V.i n] [] = some ([V.b (okL ks n.toNat (-1))], []) := by
 have hct : (ctOf [(174, s174 d)]).ok E := ctOf_cons ih ctOf_nil
 refine call_of (E := E) (sh := sh) (ct := ctOf [(174, s174 d)]) (na := 2) (m := 0) hct rfl rfl rfl rfl rfl rfl ?_
 show (p132 d).fd ((p132 d).ft _ _) = _
 rw [t132]
 simp only [nd_ok, nd_lab, nd_rows, nd_kids, encL_length, isL_enc, decL_enc, wrap_hd, hd_pos, ld_br, ld_chk', ld_leaf, fd_br, fd_chk', fd_leaf, decide_true, decide_eq_true_eq, if_true, Int.toNat_natCast, Int.natCast_nonneg, Int.ofNat_lt, Int.ofNat_le, Bool.false_eq_true, if_false, bne_iff_ne, beq_iff_eq, ne_eq, not_true_eq_false, not_false_eq_true, Bool.not_eq_true', decide_eq_false_iff_not, reduceCtorEq, rows_length, er_ok, er_ok', dr_er, isRows_rows, toRows_rows, rows_take, rows_drop, rows_append, ints_length, isInts_ints, toInts_ints, ei_i, ei_ok, mk_headD, ints_take, ints_drop, ints_append, ints_snoc, ints_snoc', List.take_length, Nat.zero_add, Nat.le_refl, er_a, er_b, er_k, er_n, er_s, er_v]
 by_cases c0 : (256 : Int) < ks.length
 · rw [if_pos c0]
   have : okL ks n.toNat (-1) = false := by
     cases h : okL ks n.toNat (-1) with
     | false => rfl
     | true => have := okL_len h (by omega); omega
   rw [this]
 rw [if_neg c0]
 refine fd_post hct (by kernel_rfl) rfl (list_post (p := p132 d) hct (b := b132_0) ks.length (fun k (_ : Unit) => s132_0 s rn rt (rows rs) kn kt (encL ks) n k) (fun k _ => okL (ks.drop k) n.toNat (prevK ks k) = okL ks n.toNat (-1) /\ (0 < k -> (ks.getD (k - 1) default).lab ≠ [])) _ ?_ ?_ 0 (Nat.zero_le _) () ⟨rfl, fun h => absurd h (by omega)⟩)
 · rintro k _ hk ⟨hi, hp⟩
   rw [List.drop_eq_getElem_cons hk, okL_cons] at hi
   have hkid : depL ks[k].kids + 1 < d + 1 := by have := depL_kid (List.getElem_mem hk); omega
   have hkid2 : depL ks[k].kids + 1 < d := by have := depL_kid (List.getElem_mem hk); omega
   have ex0 : okL ks n.toNat (-1) = false -> (p132 d).fd ((p132 d).fkx 0 (x132_0x0 s rn rt (rows rs) kn kt (encL ks))) = some (.out [V.b (okL ks n.toNat (-1))] []) := fun h => by rw [k132_0x0, fd_leaf, h]
   rw [t132_0]
   simp only [nd_ok, nd_lab, nd_rows, nd_kids, encL_length, isL_enc, decL_enc, wrap_hd, hd_pos, ld_br, ld_chk', ld_leaf, fd_br, fd_chk', fd_leaf, decide_true, decide_eq_true_eq, if_true, Int.toNat_natCast, Int.natCast_nonneg, Int.ofNat_lt, Int.ofNat_le, Bool.false_eq_true, if_false, bne_iff_ne, beq_iff_eq, ne_eq, not_true_eq_false, not_false_eq_true, Bool.not_eq_true', decide_eq_false_iff_not, reduceCtorEq, rows_length, er_ok, er_ok', dr_er, isRows_rows, toRows_rows, rows_take, rows_drop, rows_append, ints_length, isInts_ints, toInts_ints, ei_i, ei_ok, mk_headD, ints_take, ints_drop, ints_append, ints_snoc, ints_snoc', List.take_length, Nat.zero_add, Nat.le_refl, er_a, er_b, er_k, er_n, er_s, er_v, hk, encL_getD hk, wrap_succ (show k < 9223372036854775807 by omega), nd_node, hkid2, h0, h1]
   by_cases c1 : okT ks[k] n.toNat = false
   · exact .inr ⟨x132_0x0 s rn rt (rows rs) kn kt (encL ks), by simp, ex0 (by rw [<- hi, c1]; simp), by simp only [c1, if_true]⟩
   rw [Bool.not_eq_false] at c1
   have hl := (okT_lab c1).1
   rw [c1, Bool.true_and] at hi
   cases k with
   | zero =>
     have : decide (prevK ks 0 < hdB ks[0].lab) = true := by have := hdB_lt ks[0].lab; simp [prevK]; omega
     rw [this, Bool.true_and] at hi
     exact .inl ⟨(), ⟨by rw [prevK_succ hk]; exact hi, fun _ => by rw [getD_at' (by simpa using hk)]; simpa using hl⟩, by simp [c1]⟩
   | succ k =>
     have hk' : k < ks.length := by omega
     have hp' := hp (by omega)
     rw [Nat.add_sub_cancel, getD_at' hk'] at hp'
     rw [prevK_succ hk'] at hi
     simp only [c1, Bool.true_eq_false, if_false, wrap_pred (show 0 < k + 1 by omega) (show k + 1 < 9223372036854775807 by omega), Nat.add_sub_cancel, nd_ok, nd_lab, nd_rows, nd_kids, encL_length, isL_enc, decL_enc, wrap_hd, hd_pos, ld_br, ld_chk', ld_leaf, fd_br, fd_chk', fd_leaf, decide_true, decide_eq_true_eq, if_true, Int.toNat_natCast, Int.natCast_nonneg, Int.ofNat_lt, Int.ofNat_le, Bool.false_eq_true, if_false, bne_iff_ne, beq_iff_eq, ne_eq, not_true_eq_false, not_false_eq_true, Bool.not_eq_true', decide_eq_false_iff_not, reduceCtorEq, rows_length, er_ok, er_ok', dr_er, isRows_rows, toRows_rows, rows_take, rows_drop, rows_append, ints_length, isInts_ints, toInts_ints, ei_i, ei_ok, mk_headD, ints_take, ints_drop, ints_append, ints_snoc, ints_snoc', List.take_length, Nat.zero_add, Nat.le_refl, er_a, er_b, er_k, er_n, er_s, er_v, hk', encL_getD hk', show (0 : Int) < ((k + 1 : Nat) : Int) by omega, hl, hp', byte_lab]
     have z1 := byte_lab ks[k + 1].lab
     have z2 := byte_lab ks[k].lab
     by_cases c2 : (ks[k + 1].lab.getD (Int.toNat 0) 0).toNat <= (ks[k].lab.getD (Int.toNat 0) 0).toNat
     · exact .inr ⟨x132_0x0 s rn rt (rows rs) kn kt (encL ks), by simp, ex0 (by rw [<- hi]; simp [show ¬ hdB ks[k].lab < hdB ks[k + 1].lab by omega]), by rw [if_pos c2]⟩
     · have : decide (hdB ks[k].lab < hdB ks[k + 1].lab) = true := by simp; omega
       rw [this, Bool.true_and] at hi
       exact .inl ⟨(), ⟨by rw [prevK_succ hk]; exact hi, fun _ => by show (ks.getD (k + 1) default).lab ≠ []; rw [getD_at' hk]; exact hl⟩, by rw [if_neg c2]⟩
 · rintro _ ⟨hi, hp⟩
   rw [List.drop_length, okL] at hi
   rw [t132_0]
   exact ⟨x132_0x1 s rn rt (rows rs) kn kt (encL ks) n ks.length, by simp, by rw [k132_0x1, fd_leaf, <- hi], by simp only [nd_ok, nd_lab, nd_rows, nd_kids, encL_length, isL_enc, decL_enc, wrap_hd, hd_pos, ld_br, ld_chk', ld_leaf, fd_br, fd_chk', fd_leaf, decide_true, decide_eq_true_eq, if_true, Int.toNat_natCast, Int.natCast_nonneg, Int.ofNat_lt, Int.ofNat_le, Bool.false_eq_true, if_false, bne_iff_ne, beq_iff_eq, ne_eq, not_true_eq_false, not_false_eq_true, Bool.not_eq_true', decide_eq_false_iff_not, reduceCtorEq, rows_length, er_ok, er_ok', dr_er, isRows_rows, toRows_rows, rows_take, rows_drop, rows_append, ints_length, isInts_ints, toInts_ints, ei_i, ei_ok, mk_headD, ints_take, ints_drop, ints_append, ints_snoc, ints_snoc', List.take_length, Nat.zero_add, Nat.le_refl, er_a, er_b, er_k, er_n, er_s, er_v, Nat.lt_irrefl]⟩
theorem s174_of (d : Nat) (ih : CSpecOk E 132 (s132 d)) : CSpecOk E 174 (s174 (d + 1)) := by
 intro a h cs vals h' he hc
 unfold s174 at he
 split at he <;> simp only [Option.some.injEq, Prod.mk.injEq, reduceCtorEq] at he
 rename_i s xs ys n
 obtain ⟨rfl, rfl, rfl⟩ := he
 simp only [allT, Bool.and_true, Bool.and_eq_true, decide_eq_true_eq] at hc
 obtain ⟨h1, h2, h3, h4, h5⟩ := hc
 obtain ⟨rs, rfl⟩ := rows_ex h1
 obtain ⟨ks, rfl⟩ := isL_ex h2
 simp only [toRows_rows, decL_enc] at *
 exact f174 d ih s rs ks n (by omega) h4 h5
theorem s132_of (d : Nat) (ih : CSpecOk E 174 (s174 d)) : CSpecOk E 132 (s132 d) := by
 intro a h cs vals h' he hc
 unfold s132 at he
 split at he <;> simp only [Option.some.injEq, Prod.mk.injEq, reduceCtorEq] at he
 rename_i s rn rt xs kn kt ys n
 obtain ⟨rfl, rfl, rfl⟩ := he
 simp only [allT, Bool.and_true, Bool.and_eq_true, decide_eq_true_eq] at hc
 obtain ⟨h1, h2, h3, h4, h5⟩ := hc
 obtain ⟨rs, rfl⟩ := rows_ex h1
 obtain ⟨ks, rfl⟩ := isL_ex h2
 simp only [toRows_rows, decL_enc] at *
 exact f132 d ih s rn rt rs kn kt ks n h3 h4 h5
theorem s174_ok : ∀ d, CSpecOk E 174 (s174 d)
 | 0 => by
   intro a h cs vals h' he hc
   unfold s174 at he
   split at he <;> simp only [Option.some.injEq, Prod.mk.injEq, reduceCtorEq] at he
   obtain ⟨rfl, rfl, rfl⟩ := he
   simp [allT] at hc
 | d + 1 => s174_of d (s132_of d (s174_ok d))
theorem s132_ok (d : Nat) : CSpecOk E 132 (s132 d) := s132_of d (s174_ok d)
theorem f70 (s : Bys) (rn : OBo) (rt : Bool) (rs : List Row) (kn : OBo) (kt : Bool) (ks : List Nd) : call E 70 [.agg [.c (.str s), .c (.sl 5 rn rt (rows rs)), .c (.sl 3 kn kt (encL ks))]] [] = some ([V.b (okR (.node s rs ks))], []) := by
 have hct : (ctOf [(132, s132 (depL ks + 1))]).ok E := ctOf_cons (s132_ok _) ctOf_nil
 refine call_of (E := E) (sh := sh) (ct := ctOf [(132, s132 (depL ks + 1))]) (na := 1) (m := 0) hct rfl rfl rfl rfl rfl rfl ?_
 show (p70 (depL ks + 1)).fd ((p70 (depL ks + 1)).ft _ _) = _
 rw [t70]
 simp only [nd_ok, nd_lab, nd_rows, nd_kids, encL_length, isL_enc, decL_enc, wrap_hd, hd_pos, ld_br, ld_chk', ld_leaf, fd_br, fd_chk', fd_leaf, decide_true, decide_eq_true_eq, if_true, Int.toNat_natCast, Int.natCast_nonneg, Int.ofNat_lt, Int.ofNat_le, Bool.false_eq_true, if_false, bne_iff_ne, beq_iff_eq, ne_eq, not_true_eq_false, not_false_eq_true, Bool.not_eq_true', decide_eq_false_iff_not, reduceCtorEq, rows_length, er_ok, er_ok', dr_er, isRows_rows, toRows_rows, rows_take, rows_drop, rows_append, ints_length, isInts_ints, toInts_ints, ei_i, ei_ok, mk_headD, ints_take, ints_drop, ints_append, ints_snoc, ints_snoc', List.take_length, Nat.zero_add, Nat.le_refl, er_a, er_b, er_k, er_n, er_s, er_v, rows_length, nil_len, show depL ks < depL ks + 1 by omega, okR_node]
 have e24 : Int.toNat 24 = 24 := rfl
 by_cases c1 : s = []
 · by_cases c2 : rs = []
   · simp [c1, c2, e24]
   · simp [c1, c2]
 · simp [c1]
theorem s70_ok : CSpecOk E 70 s70 := by
 intro a h cs vals h' he hc
 unfold s70 at he
 split at he <;> simp only [Option.some.injEq, Prod.mk.injEq, reduceCtorEq] at he
 rename_i s rn rt xs kn kt ys
 obtain ⟨rfl, rfl, rfl⟩ := he
 simp only [allT, Bool.and_true, Bool.and_eq_true, decide_eq_true_eq] at hc
 obtain ⟨h1, h2⟩ := hc
 obtain ⟨rs, rfl⟩ := rows_ex h1
 obtain ⟨ks, rfl⟩ := isL_ex h2
 simp only [toRows_rows, decL_enc]
 exact f70 s rn rt rs kn kt ks
end Go.Proofs.YtgaabjmbnomimaaGreatDoor
namespace Go.Proofs.YtgaabjmbnomimaaGreatDoor
open Go Go.Ev
theorem pre_pre (a b : Bys) (l : List Ent) : pre a (pre b l) = pre (a ++ b) l := by simp [pre, Function.comp_def]
theorem pre_app (a : Bys) (l m : List Ent) : pre a (l ++ m) = pre a l ++ pre a m := by simp [pre]
@[simp] theorem pre_length (a : Bys) (l : List Ent) : (pre a l).length = l.length := by simp [pre]
theorem pre_nil (l : List Ent) : pre [] l = l := by simp [pre]
@[simp] theorem ents_length (l : List Ent) : (ents l).length = l.length := by simp [ents]
theorem ents_app (l m : List Ent) : ents l ++ ents m = ents (l ++ m) := by simp [ents]
theorem entL_app (l m : List Nd) : entL (l ++ m) = entL l ++ entL m := by
 induction l with
 | nil => rfl
 | cons t r ih => rw [List.cons_append, entL, entL, ih, List.append_assoc]
theorem entL_take {l : List Nd} {k : Nat} (h : k < l.length) : entL (l.take (k + 1)) = entL (l.take k) ++ entT l[k] := by
 rw [List.take_succ, List.getElem?_eq_getElem h, entL_app]; simp [entL]
theorem entL_take_le (l : List Nd) (k : Nat) : (entL (l.take k)).length <= (entL l).length := by
 conv => rhs; rw [<- List.take_append_drop k l, entL_app, List.length_append]
 omega
theorem entT_mem_len : ∀ {l : List Nd} {t : Nd}, t ∈ l -> (entT t).length <= (entL l).length
 | x :: r, t, h => by
   rw [entL, List.length_append]
   rcases List.mem_cons.1 h with rfl | h
   · omega
   · have := entT_mem_len h; omega
def ownE (q : Bys) (rs : List Row) : List Ent := if rs = [] then [] else [(q, rs)]
theorem entT_node (q s : Bys) (rs : List Row) (ks : List Nd) : pre q (entT (.node s rs ks)) = ownE (q ++ s) rs ++ pre (q ++ s) (entL ks) := by
 have e : entT (.node s rs ks) = ownE s rs ++ pre s (entL ks) := by rw [entT_eq]; rfl
 rw [e, pre_app, pre_pre]
 congr 1
 unfold ownE
 split <;> rfl
theorem f134 (d : Nat) (ih : CSpecOk E 134 (s134 d)) (s : Bys) (rn : OBo) (rt : Bool) (rs : List Row) (kn : OBo) (kt : Bool) (ks : List Nd) (q : Bys) (hd : depL ks < d + 1) (hq : q.length + s.length <= 24) (hok : okL ks (24 - (q.length + s.length)) (-1) = true) (hn : (entT (.node s rs ks)).length < 4294967290) (hf : rn = none /\ rt = false \/ rs = []) :
   call E 134 [.agg [.c (.str s), .c (.sl 5 rn rt (rows rs)), .c (.sl 3 kn kt (encL ks))], .c (.str q)] [] = some ([.c (.sl 2 none false (ents (pre q (entT (.node s rs ks)))))], []) := by
 have hct : (ctOf [(134, s134 d)]).ok E := ctOf_cons ih ctOf_nil
 have hlen : (ownE (q ++ s) rs ++ pre (q ++ s) (entL ks)).length < 4294967290 := by rw [<- entT_node, pre_length]; exact hn
 refine call_of (E := E) (sh := sh) (ct := ctOf [(134, s134 d)]) (na := 2) (m := 0) hct rfl rfl rfl rfl rfl rfl ?_
 show (p134 d).fd ((p134 d).ft _ _) = _
 rw [t134, entT_node]
 simp only [nd_ok, nd_lab, nd_rows, nd_kids, encL_length, isL_enc, decL_enc, wrap_hd, hd_pos, ld_br, ld_chk', ld_leaf, fd_br, fd_chk', fd_leaf, decide_true, decide_eq_true_eq, if_true, Int.toNat_natCast, Int.natCast_nonneg, Int.ofNat_lt, Int.ofNat_le, Bool.false_eq_true, if_false, bne_iff_ne, beq_iff_eq, ne_eq, not_true_eq_false, not_false_eq_true, Bool.not_eq_true', decide_eq_false_iff_not, reduceCtorEq, rows_length, er_ok, er_ok', dr_er, isRows_rows, toRows_rows, rows_take, rows_drop, rows_append, ints_length, isInts_ints, toInts_ints, ei_i, ei_ok, mk_headD, ints_take, ints_drop, ints_append, ints_snoc, ints_snoc', List.take_length, Nat.zero_add, Nat.le_refl, er_a, er_b, er_k, er_n, er_s, er_v, rows_length, show q.length + s.length < 4294967296 by omega]
 have key : ∀ s0, s0 = s134_0 s rn rt (rows rs) kn kt (encL ks) (q ++ s) (ownE (q ++ s) rs).length 0 (ents (ownE (q ++ s) rs)) -> (p134 d).fd (Tr.ls 0 s0) = some (R.out [.c (.sl 2 none false (ents (ownE (q ++ s) rs ++ pre (q ++ s) (entL ks))))] []) := by
   rintro _ rfl
   refine fd_post hct (by kernel_rfl) rfl (list_post (p := p134 d) hct (b := b134_0) ks.length (fun k (acc : List Ent) => s134_0 s rn rt (rows rs) kn kt (encL ks) (q ++ s) acc.length k (ents acc)) (fun k acc => acc = ownE (q ++ s) rs ++ pre (q ++ s) (entL (ks.take k))) _ ?_ ?_ 0 (Nat.zero_le _) (ownE (q ++ s) rs) (by simp [entL, pre]))
   · rintro k acc hk hacc
     have hT := okL_mem hok ks[k] (List.getElem_mem hk)
     have hl := okT_lab hT.1
     have hkid : depL ks[k].kids < d := by have := depL_kid (List.getElem_mem hk); omega
     have hkl := okL_len hok (by omega)
     have h1 : q.length + s.length + ks[k].lab.length <= 24 := by omega
     have h2 : okL ks[k].kids (24 - (q.length + s.length + ks[k].lab.length)) (-1) = true := by
       have := hl.2.2; rwa [Nat.sub_sub] at this
     have h3 : (entT ks[k]).length < 4294967290 := by
       have := entT_mem_len (List.getElem_mem hk); rw [List.length_append, pre_length] at hlen; omega
     have hnx : acc ++ pre (q ++ s) (entT ks[k]) = ownE (q ++ s) rs ++ pre (q ++ s) (entL (ks.take (k + 1))) := by rw [hacc, entL_take hk, pre_app, List.append_assoc]
     have h4 : acc.length + (entT ks[k]).length < 4294967296 := by
       have := congrArg List.length hnx
       have h5 := entL_take_le ks (k + 1)
       simp only [List.length_append, pre_length] at this hlen
       omega
     have ht : List.take acc.length (ents acc) = ents acc := by rw [<- ents_length acc, List.take_length]
     left
     refine ⟨acc ++ pre (q ++ s) (entT ks[k]), hnx, ?_⟩
     rw [t134_0]
     simp only [nd_ok, nd_lab, nd_rows, nd_kids, encL_length, isL_enc, decL_enc, wrap_hd, hd_pos, ld_br, ld_chk', ld_leaf, fd_br, fd_chk', fd_leaf, decide_true, decide_eq_true_eq, if_true, Int.toNat_natCast, Int.natCast_nonneg, Int.ofNat_lt, Int.ofNat_le, Bool.false_eq_true, if_false, bne_iff_ne, beq_iff_eq, ne_eq, not_true_eq_false, not_false_eq_true, Bool.not_eq_true', decide_eq_false_iff_not, reduceCtorEq, rows_length, er_ok, er_ok', dr_er, isRows_rows, toRows_rows, rows_take, rows_drop, rows_append, ints_length, isInts_ints, toInts_ints, ei_i, ei_ok, mk_headD, ints_take, ints_drop, ints_append, ints_snoc, ints_snoc', List.take_length, Nat.zero_add, Nat.le_refl, er_a, er_b, er_k, er_n, er_s, er_v, hk, encL_getD hk, nd_node, hkid, h1, h2, h3, wrap_succ (show k < 9223372036854775807 by omega), ents_length, pre_length, h4, ht, ents_app, List.length_append, and_self, true_or]
   · rintro _ rfl
     rw [t134_0]
     refine ⟨x134_0x0 s rn rt (rows rs) kn kt (encL ks) (q ++ s) (ownE (q ++ s) rs ++ pre (q ++ s) (entL (ks.take ks.length))).length ks.length (ents (ownE (q ++ s) rs ++ pre (q ++ s) (entL (ks.take ks.length)))), by simp, ?_, by simp only [nd_ok, nd_lab, nd_rows, nd_kids, encL_length, isL_enc, decL_enc, wrap_hd, hd_pos, ld_br, ld_chk', ld_leaf, fd_br, fd_chk', fd_leaf, decide_true, decide_eq_true_eq, if_true, Int.toNat_natCast, Int.natCast_nonneg, Int.ofNat_lt, Int.ofNat_le, Bool.false_eq_true, if_false, bne_iff_ne, beq_iff_eq, ne_eq, not_true_eq_false, not_false_eq_true, Bool.not_eq_true', decide_eq_false_iff_not, reduceCtorEq, rows_length, er_ok, er_ok', dr_er, isRows_rows, toRows_rows, rows_take, rows_drop, rows_append, ints_length, isInts_ints, toInts_ints, ei_i, ei_ok, mk_headD, ints_take, ints_drop, ints_append, ints_snoc, ints_snoc', List.take_length, Nat.zero_add, Nat.le_refl, er_a, er_b, er_k, er_n, er_s, er_v, Int.lt_irrefl]⟩
     rw [k134_0x0, fd_leaf, List.take_length, <- ents_length (ownE (q ++ s) rs ++ pre (q ++ s) (entL ks)), List.take_length]
 by_cases c : rs = []
 · subst c
   rw [if_neg (by simp)]
   exact key _ rfl
 · have : (0 : Int) < rs.length := by have := List.length_pos_iff.2 c; omega
   rw [if_pos this]
   obtain ⟨rfl, rfl⟩ : rn = none /\ rt = false := by rcases hf with h | h; exact h; exact absurd h c
   exact key _ (by unfold ownE; rw [if_neg c]; rfl)
theorem s134_ok : ∀ d, CSpecOk E 134 (s134 d)
 | 0 => by
   intro a h cs vals h' he hc
   unfold s134 at he
   split at he <;> simp only [Option.some.injEq, Prod.mk.injEq, reduceCtorEq] at he
   obtain ⟨rfl, rfl, rfl⟩ := he
   simp [allT] at hc
 | d + 1 => by
   intro a h cs vals h' he hc
   unfold s134 at he
   split at he <;> simp only [Option.some.injEq, Prod.mk.injEq, reduceCtorEq] at he
   rename_i s rn rt xs kn kt ys q
   obtain ⟨rfl, rfl, rfl⟩ := he
   simp only [allT, Bool.and_true, Bool.and_eq_true, decide_eq_true_eq] at hc
   obtain ⟨h1, h2, h3, h4, h5, h6, h7⟩ := hc
   obtain ⟨rs, rfl⟩ := rows_ex h1
   obtain ⟨ks, rfl⟩ := isL_ex h2
   simp only [toRows_rows, decL_enc] at *
   refine f134 d (s134_ok d) s rn rt rs kn kt ks q h3 h4 h5 h6 (h7.imp id fun h => ?_)
   cases rs with
   | nil => rfl
   | cons a r => cases h
theorem f75 (s : Bys) (rn : OBo) (rt : Bool) (rs : List Row) (kn : OBo) (kt : Bool) (ks : List Nd) (hn : (entT (.node s rs ks)).length < 4294967290) : call E 75 [.agg [.c (.str s), .c (.sl 5 rn rt (rows rs)), .c (.sl 3 kn kt (encL ks))]] [] = some ([.c (.sl 2 none false (ents (if okR (.node s rs ks) = true then entT (.node s rs ks) else [])))], []) := by
 have hct : (ctOf [(70, s70), (134, s134 (depL ks + 1))]).ok E := ctOf_cons s70_ok (ctOf_cons (s134_ok _) ctOf_nil)
 refine call_of (E := E) (sh := sh) (ct := ctOf [(70, s70), (134, s134 (depL ks + 1))]) (na := 1) (m := 0) hct rfl rfl rfl rfl rfl rfl ?_
 show (p75 (depL ks + 1)).fd ((p75 (depL ks + 1)).ft _ _) = _
 rw [t75]
 by_cases c : okR (.node s rs ks) = true
 · have c' := c
   rw [okR_node] at c'
   simp only [Bool.and_eq_true, decide_eq_true_eq] at c'
   obtain ⟨⟨rfl, rfl⟩, hk⟩ := c'
   have e1 : rows ([] : List Row) = [] := rfl
   have e2 : isRows [] = true := rfl
   have e3 : toRows [] = [] := rfl
   simp only [nd_ok, nd_lab, nd_rows, nd_kids, encL_length, isL_enc, decL_enc, wrap_hd, hd_pos, ld_br, ld_chk', ld_leaf, fd_br, fd_chk', fd_leaf, decide_true, decide_eq_true_eq, if_true, Int.toNat_natCast, Int.natCast_nonneg, Int.ofNat_lt, Int.ofNat_le, Bool.false_eq_true, if_false, bne_iff_ne, beq_iff_eq, ne_eq, not_true_eq_false, not_false_eq_true, Bool.not_eq_true', decide_eq_false_iff_not, reduceCtorEq, rows_length, er_ok, er_ok', dr_er, isRows_rows, toRows_rows, rows_take, rows_drop, rows_append, ints_length, isInts_ints, toInts_ints, ei_i, ei_ok, mk_headD, ints_take, ints_drop, ints_append, ints_snoc, ints_snoc', List.take_length, Nat.zero_add, Nat.le_refl, er_a, er_b, er_k, er_n, er_s, er_v, c, show depL ks < depL ks + 1 by omega, hn, hk, pre_nil, List.length_nil, Nat.sub_zero, Nat.zero_le, Bool.not_true, e1, e2, e3, or_true]
 · rw [Bool.not_eq_true] at c
   simp only [nd_ok, nd_lab, nd_rows, nd_kids, encL_length, isL_enc, decL_enc, wrap_hd, hd_pos, ld_br, ld_chk', ld_leaf, fd_br, fd_chk', fd_leaf, decide_true, decide_eq_true_eq, if_true, Int.toNat_natCast, Int.natCast_nonneg, Int.ofNat_lt, Int.ofNat_le, Bool.false_eq_true, if_false, bne_iff_ne, beq_iff_eq, ne_eq, not_true_eq_false, not_false_eq_true, Bool.not_eq_true', decide_eq_false_iff_not, reduceCtorEq, rows_length, er_ok, er_ok', dr_er, isRows_rows, toRows_rows, rows_take, rows_drop, rows_append, ints_length, isInts_ints, toInts_ints, ei_i, ei_ok, mk_headD, ints_take, ints_drop, ints_append, ints_snoc, ints_snoc', List.take_length, Nat.zero_add, Nat.le_refl, er_a, er_b, er_k, er_n, er_s, er_v, c, Bool.not_false]
   rfl
theorem s75_ok : CSpecOk E 75 s75 := by
 intro a h cs vals h' he hc
 unfold s75 at he
 split at he <;> simp only [Option.some.injEq, Prod.mk.injEq, reduceCtorEq] at he
 rename_i s rn rt xs kn kt ys
 obtain ⟨rfl, rfl, rfl⟩ := he
 simp only [allT, Bool.and_true, Bool.and_eq_true, decide_eq_true_eq] at hc
 obtain ⟨h1, h2, h3⟩ := hc
 obtain ⟨rs, rfl⟩ := rows_ex h1
 obtain ⟨ks, rfl⟩ := isL_ex h2
 simp only [toRows_rows, decL_enc] at *
 exact f75 s rn rt rs kn kt ks h3
theorem ents_getD {l : List Ent} {i : Nat} (h : i < l.length) : (ents l).getD i [] = ee l[i] := by simp [ents, List.getD_eq_getElem?_getD, h]
theorem ee_p (e : Ent) (d : C) : ((ee e).headD d).st = e.1 := rfl
theorem ee_r (e : Ent) (d : C) : ((ee e).tail.headD d).xs = rows e.2 := rfl
theorem ee_ok (e : Ent) : shOk [.str, .sl 5] (ee e) = true := rfl
theorem f28 (s : Bys) (rn : OBo) (rt : Bool) (rs : List Row) (kn : OBo) (kt : Bool) (ks : List Nd) (q : Bys) (hn : (entT (.node s rs ks)).length < 4294967290) : call E 28 [.agg [.c (.str s), .c (.sl 5 rn rt (rows rs)), .c (.sl 3 kn kt (encL ks))], .c (.str q)] [] = some ([.c (.sl 5 none false (rows (getR (.node s rs ks) q)))], []) := by
 have hct : (ctOf [(75, s75)]).ok E := ctOf_cons s75_ok ctOf_nil
 refine call_of (E := E) (sh := sh) (ct := ctOf [(75, s75)]) (na := 2) (m := 0) hct rfl rfl rfl rfl rfl rfl ?_
 rw [t28]
 simp only [nd_ok, nd_lab, nd_rows, nd_kids, encL_length, isL_enc, decL_enc, wrap_hd, hd_pos, ld_br, ld_chk', ld_leaf, fd_br, fd_chk', fd_leaf, decide_true, decide_eq_true_eq, if_true, Int.toNat_natCast, Int.natCast_nonneg, Int.ofNat_lt, Int.ofNat_le, Bool.false_eq_true, if_false, bne_iff_ne, beq_iff_eq, ne_eq, not_true_eq_false, not_false_eq_true, Bool.not_eq_true', decide_eq_false_iff_not, reduceCtorEq, rows_length, er_ok, er_ok', dr_er, isRows_rows, toRows_rows, rows_take, rows_drop, rows_append, ints_length, isInts_ints, toInts_ints, ei_i, ei_ok, mk_headD, ints_take, ints_drop, ints_append, ints_snoc, ints_snoc', List.take_length, Nat.zero_add, Nat.le_refl, er_a, er_b, er_k, er_n, er_s, er_v, hn]
 have hL : getR (.node s rs ks) q = look (if okR (.node s rs ks) = true then entT (.node s rs ks) else []) q := by
   rw [getR_look]
   split
   · rename_i c
     rw [okR_node] at c
     simp only [Bool.and_eq_true, decide_eq_true_eq] at c
     obtain ⟨⟨rfl, rfl⟩, hk⟩ := c
     have := entT_node [] [] [] ks
     rw [pre_nil] at this
     rw [this]
     simp [ownE, pre_nil, Nd.kids]
   · rfl
 rw [hL]
 have hl : (if okR (.node s rs ks) = true then entT (.node s rs ks) else []).length < 4294967290 := by split; exact hn; simp
 generalize (if okR (.node s rs ks) = true then entT (.node s rs ks) else []) = l at *
 refine fd_post hct (by kernel_rfl) rfl (list_post (p := p28) hct (b := b28_0) l.length (fun k (_ : Unit) => s28_0 q none false (ents l) k) (fun k _ => look (l.drop k) q = look l q) _ ?_ ?_ 0 (Nat.zero_le _) () rfl)
 · rintro k _ hk hi
   rw [List.drop_eq_getElem_cons hk, look] at hi
   rw [t28_0]
   simp only [nd_ok, nd_lab, nd_rows, nd_kids, encL_length, isL_enc, decL_enc, wrap_hd, hd_pos, ld_br, ld_chk', ld_leaf, fd_br, fd_chk', fd_leaf, decide_true, decide_eq_true_eq, if_true, Int.toNat_natCast, Int.natCast_nonneg, Int.ofNat_lt, Int.ofNat_le, Bool.false_eq_true, if_false, bne_iff_ne, beq_iff_eq, ne_eq, not_true_eq_false, not_false_eq_true, Bool.not_eq_true', decide_eq_false_iff_not, reduceCtorEq, rows_length, er_ok, er_ok', dr_er, isRows_rows, toRows_rows, rows_take, rows_drop, rows_append, ints_length, isInts_ints, toInts_ints, ei_i, ei_ok, mk_headD, ints_take, ints_drop, ints_append, ints_snoc, ints_snoc', List.take_length, Nat.zero_add, Nat.le_refl, er_a, er_b, er_k, er_n, er_s, er_v, hk, ents_length, ents_getD hk, ee_p, ee_r, ee_ok, wrap_succ (show k < 9223372036854775807 by omega)]
   by_cases c : l[k].1 = q
   · rw [if_pos c] at hi
     exact .inr ⟨x28_0x0 none (rows l[k].2), by simp, by rw [k28_0x0, fd_leaf, hi], by rw [if_pos c]⟩
   · rw [if_neg c] at hi
     exact .inl ⟨(), hi, by rw [if_neg c]⟩
 · rintro _ hi
   rw [List.drop_length, look] at hi
   rw [t28_0]
   exact ⟨x28_0x1 q none false (ents l) l.length, by simp, by rw [k28_0x1, fd_leaf, <- hi]; rfl, by simp only [nd_ok, nd_lab, nd_rows, nd_kids, encL_length, isL_enc, decL_enc, wrap_hd, hd_pos, ld_br, ld_chk', ld_leaf, fd_br, fd_chk', fd_leaf, decide_true, decide_eq_true_eq, if_true, Int.toNat_natCast, Int.natCast_nonneg, Int.ofNat_lt, Int.ofNat_le, Bool.false_eq_true, if_false, bne_iff_ne, beq_iff_eq, ne_eq, not_true_eq_false, not_false_eq_true, Bool.not_eq_true', decide_eq_false_iff_not, reduceCtorEq, rows_length, er_ok, er_ok', dr_er, isRows_rows, toRows_rows, rows_take, rows_drop, rows_append, ints_length, isInts_ints, toInts_ints, ei_i, ei_ok, mk_headD, ints_take, ints_drop, ints_append, ints_snoc, ints_snoc', List.take_length, Nat.zero_add, Nat.le_refl, er_a, er_b, er_k, er_n, er_s, er_v, ents_length, Int.lt_irrefl]⟩
def s28 : CSpec := fun a h => match a, h with
 | [.agg [.c (.str s), .c (.sl 5 rn rt xs), .c (.sl 3 kn kt ys)], .c (.str q)], [] => some ([isRows xs, isL ys, decide ((entT (.node s (toRows xs) (decL ys))).length < 4294967290)], [.c (.sl 5 none false (rows (getR (.node s (toRows xs) (decL ys)) q)))], [])
 | _, _ => none
theorem s28_ok : CSpecOk E 28 s28 := by
 intro a h cs vals h' he hc
 unfold s28 at he
 split at he <;> simp only [Option.some.injEq, Prod.mk.injEq, reduceCtorEq] at he
 rename_i s rn rt xs kn kt ys q
 obtain ⟨rfl, rfl, rfl⟩ := he
 simp only [allT, Bool.and_true, Bool.and_eq_true, decide_eq_true_eq] at hc
 obtain ⟨h1, h2, h3⟩ := hc
 obtain ⟨rs, rfl⟩ := rows_ex h1
 obtain ⟨ks, rfl⟩ := isL_ex h2
 simp only [toRows_rows, decL_enc] at *
 exact f28 s rn rt rs kn kt ks q h3
theorem leftL_cons (t : Nd) (r : List Nd) (n d : Int) : leftL (t :: r) n d = if 0 < n then leftL r (leftT t n d) d else n := by rw [leftL]
mutual
theorem leftT_le : ∀ (t : Nd) (n d : Int), 0 <= n -> 0 <= leftT t n d /\ leftT t n d <= n
 | .node lab rs ks, n, d, h => by
   rw [leftT]
   split
   · omega
   · have := leftL_le ks (n - 1 - ((lab.length / 50 : Nat) : Int)) (d - 1) (by omega)
     omega
theorem leftL_le : ∀ (l : List Nd) (n d : Int), 0 <= n -> 0 <= leftL l n d /\ leftL l n d <= n
 | [], n, d, h => by rw [leftL]; omega
 | t :: r, n, d, h => by
   rw [leftL]
   split
   · have h1 := leftT_le t n d h
     have h2 := leftL_le r (leftT t n d) d h1.1
     omega
   · omega
end
theorem lensL_mem : ∀ {l : List Nd} {t : Nd}, lensL l = true -> t ∈ l -> lensT t = true
 | x :: r, t, h, ht => by
   rw [lensL, Bool.and_eq_true] at h
   rcases List.mem_cons.1 ht with rfl | ht
   · exact h.1
   · exact lensL_mem h.2 ht
theorem lensT_eq (t : Nd) : lensT t = (decide (t.lab.length <= 9223372036854775807) && decide (t.rows.length <= 9223372036854775807) && decide (t.kids.length <= 9223372036854775807) && lensL t.kids) := by cases t; rw [lensT]; rfl
end Go.Proofs.YtgaabjmbnomimaaGreatDoor
namespace Go.Proofs.YtgaabjmbnomimaaGreatDoor
open Go Go.Ev
def s171 : CSpec := fun a h => match a, h with
 | [.c (.sl 3 nl tt xs)], [] => some ([decide (xs.length < 4294967296)], [.buf 0 0 0 xs.length], [.mem 3 0 xs])
 | _, _ => none
noncomputable abbrev p126 : Par := par E sh (ctOf [(171, s171)]) 126 1 0
theorem t126 (s : Bys) (rn : OBo) (rt : Bool) (xs : LLC) (kn : OBo) (kt : Bool) (ys : LLC) : p126.ft ([V.agg [V.c (C.str s), V.c (C.sl 5 rn rt xs), V.c (C.sl 3 kn kt ys)]]) ([]) = (Tr.chk (decide (ys.length < 4294967296)) (Tr.leaf (R.out [V.agg [V.c (C.str s), V.c (C.sl 5 rn rt xs), V.buf 0 0 0 ys.length]] [O.mem 3 0 ys]))) := by kernel_rfl
noncomputable abbrev p128 : Par := par E sh (ctOf []) 128 2 0
abbrev s128_0 (a : Bys) (b : Bys) (i5 : Int) : Fr × Hp := ([(0, V.c (C.str a)), (1, V.c (C.str b)), (5, V.c (C.int IntKind.i64 i5))], [])
noncomputable abbrev b128_0 : Code := loopAt (codeOf E (128)) 0
abbrev x128_0x0 (a : Bys) (b : Bys) (i5 : Int) : Ex × Fr × Hp := (Ex.exit 0, [(0, V.c (C.str a)), (1, V.c (C.str b)), (5, V.c (C.int IntKind.i64 i5)), (24, V.c (C.bool false))], [])
theorem t128_0 (a : Bys) (b : Bys) (i5 : Int) : p128.lts b128_0 (s128_0 a b i5) = (Tr.br (decide (i5 < (↑a.length : Int))) (Tr.br (decide (i5 < (↑b.length : Int))) (Tr.chk (decide (0 <= i5)) (Tr.chk (decide (i5.toNat < a.length)) (Tr.chk (decide (0 <= i5)) (Tr.chk (decide (i5.toNat < b.length)) (Tr.br ((↑(a.getD i5.toNat 0).toNat : Int) == (↑(b.getD i5.toNat 0).toNat : Int)) (Tr.leaf (R.s (s128_0 a b (IntKind.i64.wrap (i5 + 1))))) (Tr.leaf (R.x (x128_0x0 a b i5)))))))) (Tr.leaf (R.x (x128_0x0 a b i5)))) (Tr.leaf (R.x (x128_0x0 a b i5)))) := by kernel_rfl
theorem k128_0x0 (a : Bys) (b : Bys) (i5 : Int) : p128.fkx 0 (x128_0x0 a b i5) = (Tr.leaf (R.out [V.c (C.int IntKind.i64 i5)] [])) := by kernel_rfl
theorem t128 (a : Bys) (b : Bys) : p128.ft ([V.c (C.str a), V.c (C.str b)]) ([]) = (Tr.ls 0 (s128_0 a b (0))) := by kernel_rfl
noncomputable abbrev p129 : Par := par E sh (ctOf []) 129 2 0
theorem t129 (s : Bys) (xs : LLC) (ys : LLC) (n : Int) : p129.ft ([V.agg [V.c (C.str s), V.c (C.sl 5 none false xs), V.c (C.sl 3 none false ys)], V.i n]) ([]) = (Tr.chk (decide (0 <= n)) (Tr.chk true (Tr.chk (decide (n.toNat <= s.length)) (Tr.chk (decide (0 <= n)) (Tr.chk (decide (n.toNat <= s.length)) (Tr.chk (decide (s.length <= s.length)) (Tr.leaf (R.out [V.agg [V.c (C.str (List.take n.toNat s)), V.c (C.sl 5 none false []), V.c (C.sl 3 none false [[C.str (List.drop n.toNat (List.take s.length s)), C.sl 5 none false xs, C.sl 3 none false ys]])]] [])))))))) := by kernel_rfl
noncomputable abbrev p123b : Par := par E sh (ctOf [(136, s136)]) 135 3 1
abbrev s123b_0 (len : Nat) (xs : LLC) (b : Int) (i8 : Int) (i9 : Int) (i10 : Int) : Fr × Hp := ([(0, V.buf 0 0 0 len), (1, V.c (C.int IntKind.u8 b)), (2, V.fn 136 []), (8, V.c (C.int IntKind.i64 i8)), (9, V.c (C.int IntKind.i64 i9)), (10, V.c (C.int IntKind.i64 i10))], [O.mem 3 0 xs])
noncomputable abbrev b123b_0 : Code := loopAt (codeOf E (135)) 0
abbrev x123b_0x0 (len : Nat) (xs : LLC) (b : Int) (i8 : Int) (i9 : Int) (i10 : Int) : Ex × Fr × Hp := (Ex.exit 0, [(0, V.buf 0 0 0 len), (1, V.c (C.int IntKind.u8 b)), (2, V.fn 136 []), (8, V.c (C.int IntKind.i64 i8)), (9, V.c (C.int IntKind.i64 i9)), (10, V.c (C.int IntKind.i64 i10)), (17, V.c (C.bool false))], [O.mem 3 0 xs])
theorem t123b_0 (len : Nat) (xs : LLC) (b : Int) (i8 : Int) (i9 : Int) (i10 : Int) : p123b.lts b123b_0 (s123b_0 len xs b i8 i9 i10) = (Tr.br (decide (i9 < i10)) (Tr.chk (decide (0 <= IntKind.i64.wrap (IntKind.u64.wrap (IntKind.i64.wrap (i9 + i10)) / 2 ^ min (Int.toNat 1) IntKind.u64.bits))) (Tr.chk (decide (IntKind.i64.wrap (IntKind.u64.wrap (IntKind.i64.wrap (i9 + i10)) / 2 ^ min (Int.toNat 1) IntKind.u64.bits) < (↑len : Int))) (Tr.chk true (Tr.chk true (Tr.chk true (Tr.chk (decide (0 + (IntKind.i64.wrap (IntKind.u64.wrap (IntKind.i64.wrap (i9 + i10)) / 2 ^ min (Int.toNat 1) IntKind.u64.bits)).toNat < xs.length)) (Tr.chk (decide (3 <= (xs.getD (0 + (IntKind.i64.wrap (IntKind.u64.wrap (IntKind.i64.wrap (i9 + i10)) / 2 ^ min (Int.toNat 1) IntKind.u64.bits)).toNat) []).length)) (Tr.chk (shOk [Sk.str, Sk.sl 5, Sk.sl 3] (List.take 3 (xs.getD (0 + (IntKind.i64.wrap (IntKind.u64.wrap (IntKind.i64.wrap (i9 + i10)) / 2 ^ min (Int.toNat 1) IntKind.u64.bits)).toNat) []))) (Tr.chk (decide (((List.take 3 (xs.getD (0 + (IntKind.i64.wrap (IntKind.u64.wrap (IntKind.i64.wrap (i9 + i10)) / 2 ^ min (Int.toNat 1) IntKind.u64.bits)).toNat) [])).headD C.pnil).st ≠ [])) (Tr.chk (decide (0 <= b)) (Tr.chk (decide (b <= 255)) (Tr.br (decide (hdB ((List.take 3 (xs.getD (0 + (IntKind.i64.wrap (IntKind.u64.wrap (IntKind.i64.wrap (i9 + i10)) / 2 ^ min (Int.toNat 1) IntKind.u64.bits)).toNat) [])).headD C.pnil).st - b < 0)) (Tr.leaf (R.s (s123b_0 len xs b i8 (IntKind.i64.wrap (IntKind.i64.wrap (IntKind.u64.wrap (IntKind.i64.wrap (i9 + i10)) / 2 ^ min (Int.toNat 1) IntKind.u64.bits) + 1)) i10))) (Tr.leaf (R.s (s123b_0 len xs b i8 i9 (IntKind.i64.wrap (IntKind.u64.wrap (IntKind.i64.wrap (i9 + i10)) / 2 ^ min (Int.toNat 1) IntKind.u64.bits))))))))))))))))) (Tr.leaf (R.x (x123b_0x0 len xs b i8 i9 i10)))) := by kernel_rfl
theorem k123b_0x0 (len : Nat) (xs : LLC) (b : Int) (i8 : Int) (i9 : Int) (i10 : Int) : p123b.fkx 0 (x123b_0x0 len xs b i8 i9 i10) = (Tr.br (decide (i9 < i8)) (Tr.chk (decide (0 <= i9)) (Tr.chk (decide (i9 < (↑len : Int))) (Tr.chk true (Tr.chk true (Tr.chk true (Tr.chk (decide (0 + i9.toNat < xs.length)) (Tr.chk (decide (3 <= (xs.getD (0 + i9.toNat) []).length)) (Tr.chk (shOk [Sk.str, Sk.sl 5, Sk.sl 3] (List.take 3 (xs.getD (0 + i9.toNat) []))) (Tr.chk (decide (((List.take 3 (xs.getD (0 + i9.toNat) [])).headD C.pnil).st ≠ [])) (Tr.chk (decide (0 <= b)) (Tr.chk (decide (b <= 255)) (Tr.leaf (R.out [V.c (C.int IntKind.i64 i9), V.c (C.bool (hdB ((List.take 3 (xs.getD (0 + i9.toNat) [])).headD C.pnil).st - b == 0))] [O.mem 3 0 xs]))))))))))))) (Tr.leaf (R.out [V.c (C.int IntKind.i64 i9), V.c (C.bool false)] [O.mem 3 0 xs]))) := by kernel_rfl
theorem t123b (len : Nat) (xs : LLC) (b : Int) : p123b.ft ([V.buf 0 0 0 len, V.c (C.int IntKind.u8 b), V.fn 136 []]) ([O.mem 3 0 xs]) = (Tr.chk true (Tr.ls 0 (s123b_0 len xs b ((↑len : Int)) (0) ((↑len : Int))))) := by kernel_rfl
end Go.Proofs.YtgaabjmbnomimaaGreatDoor
namespace Go.Proofs.YtgaabjmbnomimaaGreatDoor
open Go Go.Ev
theorem Nd.lab_node (a : Bys) (b : List Row) (c : List Nd) : (Nd.node a b c).lab = a := rfl
theorem Nd.rows_node (a : Bys) (b : List Row) (c : List Nd) : (Nd.node a b c).rows = b := rfl
theorem Nd.kids_node (a : Bys) (b : List Row) (c : List Nd) : (Nd.node a b c).kids = c := rfl
theorem bl_irrefl : ∀ x : List UInt8, Op.bytesLess x x = false
 | [] => rfl
 | a :: x => by simp [Op.bytesLess, bl_irrefl x]
theorem bl_trans : ∀ {x y z : List UInt8}, Op.bytesLess x y = true -> Op.bytesLess y z = true -> Op.bytesLess x z = true
 | [], [], _, h, _ => by simp [Op.bytesLess] at h
 | [], _ :: _, [], _, h => by simp [Op.bytesLess] at h
 | [], _ :: _, _ :: _, _, _ => rfl
 | _ :: _, [], _, h, _ => by simp [Op.bytesLess] at h
 | _ :: _, _ :: _, [], _, h => by simp [Op.bytesLess] at h
 | a :: x, b :: y, c :: z, h, k => by
   simp only [Op.bytesLess, Bool.or_eq_true, decide_eq_true_eq, Bool.and_eq_true, beq_iff_eq] at h k ⊢
   rcases h with h | ⟨rfl, h⟩ <;> rcases k with k | ⟨rfl, k⟩
   · exact .inl (UInt8.lt_trans h k)
   · exact .inl h
   · exact .inl k
   · exact .inr ⟨rfl, bl_trans h k⟩
theorem bl_total : ∀ (x y : Bys), Op.bytesLess x y = false -> Op.bytesLess y x = false -> x = y
 | [], [], _, _ => rfl
 | [], _ :: _, h, _ => by simp [Op.bytesLess] at h
 | _ :: _, [], _, h => by simp [Op.bytesLess] at h
 | a :: x, b :: y, h, k => by
   simp only [Op.bytesLess, Bool.or_eq_false_iff, decide_eq_false_iff_not, Bool.and_eq_false_iff, beq_eq_false_iff_ne] at h k
   have e : a = b := by
     have h1 := UInt8.not_lt.1 h.1
     have h2 := UInt8.not_lt.1 k.1
     exact UInt8.le_antisymm h2 h1
   subst e
   rw [bl_total x y (h.2.resolve_left (by simp)) (k.2.resolve_left (by simp))]
theorem bl_asymm {x y : List UInt8} (h : Op.bytesLess x y = true) : Op.bytesLess y x = false := by
 cases k : Op.bytesLess y x with
 | false => rfl
 | true => have := bl_trans h k; rw [bl_irrefl] at this; cases this
theorem bl_ne {x y : List UInt8} (h : Op.bytesLess x y = true) : x ≠ y := by
 rintro rfl
 rw [bl_irrefl] at h; cases h
theorem bl_app : ∀ (a x y : Bys), Op.bytesLess (a ++ x) (a ++ y) = Op.bytesLess x y
 | [], _, _ => rfl
 | c :: a, x, y => by simp [Op.bytesLess, bl_app a x y]
theorem bl_hd {x y : List UInt8} (hx : x ≠ []) (hy : y ≠ []) (h : hdB x < hdB y) : Op.bytesLess x y = true := by
 obtain ⟨a, r, rfl⟩ := head_of_ne hx
 obtain ⟨b, s, rfl⟩ := head_of_ne hy
 simp only [hdB, List.headD_cons] at h
 have : a < b := by rw [UInt8.lt_iff_toNat_lt]; omega
 simp [Op.bytesLess, this]
def ownB (rs : List Row) : List Ent := if rs = [] then [] else [([], rs)]
def entB (t : Nd) : List Ent := ownB t.rows ++ entL t.kids
theorem entT_B (t : Nd) : entT t = (entB t).map fun e => (t.lab ++ e.1, e.2) := by
 rw [entT_eq, entB, List.map_append, ownB]
 split <;> simp
def insE : List Ent -> List UInt8 -> List Row -> List Ent
 | [], p, r => if r = [] then [] else [(p, r)]
 | e :: l, p, r => if Op.bytesLess e.1 p = true then e :: insE l p r else if e.1 = p then (if r = [] then l else (p, r) :: l) else if r = [] then e :: l else (p, r) :: e :: l
theorem insE_lt {A l : List Ent} {p : List UInt8} {r : List Row} (h : ∀ e ∈ A, Op.bytesLess e.1 p = true) : insE (A ++ l) p r = A ++ insE l p r := by
 induction A with
 | nil => rfl
 | cons e A ih =>
   rw [List.cons_append, insE, if_pos (h e (by simp)), ih fun x hx => h x (by simp [hx])]; rfl
theorem insE_gt {B : List Ent} {p : List UInt8} {r : List Row} (h : ∀ e ∈ B, Op.bytesLess p e.1 = true) : insE B p r = (if r = [] then [] else [(p, r)]) ++ B := by
 cases B with
 | nil => simp [insE]
 | cons e B =>
   have h1 := h e (by simp)
   rw [insE, if_neg (by rw [bl_asymm h1]; simp), if_neg (fun h => bl_ne h1 h.symm)]
   split <;> simp
theorem insE_mid {M B : List Ent} {p : List UInt8} {r : List Row} (h : ∀ e ∈ B, Op.bytesLess p e.1 = true) : insE (M ++ B) p r = insE M p r ++ B := by
 induction M with
 | nil => rw [List.nil_append, insE_gt h]; rfl
 | cons e M ih =>
   simp only [List.cons_append, insE, ih]
   split
   · rfl
   · split
     · split <;> rfl
     · split <;> rfl
theorem insE_map (a : Bys) (l : List Ent) (p : Bys) (r : List Row) : insE (l.map fun e => (a ++ e.1, e.2)) (a ++ p) r = (insE l p r).map fun e => (a ++ e.1, e.2) := by
 induction l with
 | nil => simp only [List.map_nil, insE]; split <;> simp
 | cons e l ih =>
   simp only [List.map_cons, insE, bl_app, List.append_cancel_left_eq, ih]
   split
   · simp
   · split
     · split <;> simp
     · split <;> simp
theorem insE_absent {l : List Ent} {p : List UInt8} (h : ∀ e ∈ l, e.1 ≠ p) : insE l p [] = l := by
 induction l with
 | nil => rfl
 | cons e l ih =>
   rw [insE, ih fun x hx => h x (by simp [hx]), if_neg (h e (by simp))]
   simp
def sharedL : List UInt8 -> List UInt8 -> Nat
 | a :: r, b :: s => if a = b then sharedL r s + 1 else 0
 | _, _ => 0
def joinN (t : Nd) : Option Nd :=
 if t.rows ≠ [] \/ 2 <= t.kids.length then some t else match t.kids with
   | [] => none
   | k :: _ => some (.node (t.lab ++ k.lab) k.rows k.kids)
def splitN (t : Nd) (n : Nat) : Nd := .node (t.lab.take n) [] [.node (t.lab.drop n) t.rows t.kids]
def downN (k : Nd) (p : Bys) : Nd := if sharedL k.lab p < k.lab.length then splitN k (sharedL k.lab p) else k
def setN (t : Nd) (i : Nat) : Option Nd -> Nd
 | some k => .node t.lab t.rows (t.kids.set i k)
 | none => .node t.lab t.rows (t.kids.take i ++ t.kids.drop (i + 1))
def putN : Nat -> Nd -> List UInt8 -> List Row -> Nd
 | 0, t, _, _ => t
 | f + 1, t, p, rs => match p with
   | [] => .node t.lab rs t.kids
   | b :: q =>
     if hitK t.kids (b.toNat : Int) = true then
       if sharedL (t.kids.getD (posK t.kids (b.toNat : Int)) default).lab (b :: q) < (t.kids.getD (posK t.kids (b.toNat : Int)) default).lab.length /\ rs = [] then t
       else setN t (posK t.kids (b.toNat : Int)) (joinN (putN f (downN (t.kids.getD (posK t.kids (b.toNat : Int)) default) (b :: q)) ((b :: q).drop (sharedL (t.kids.getD (posK t.kids (b.toNat : Int)) default).lab (b :: q))) rs))
     else if rs = [] then t else .node t.lab t.rows (t.kids.take (posK t.kids (b.toNat : Int)) ++ .node (b :: q) rs [] :: t.kids.drop (posK t.kids (b.toNat : Int)))
theorem shared_split : ∀ (a p : Bys), a.take (sharedL a p) = p.take (sharedL a p) /\ sharedL a p <= a.length /\ sharedL a p <= p.length
 | [], p => by simp [sharedL]
 | _ :: _, [] => by simp [sharedL]
 | a :: r, b :: s => by
   simp only [sharedL]
   split
   · rename_i h
     have := shared_split r s
     simp [h, this.1, this.2.1, this.2.2]
   · simp
theorem shared_next : ∀ (a p : Bys), sharedL a p < a.length -> ¬ a <+: p
 | [], p, h => by simp [sharedL] at h
 | _ :: _, [], _ => by simp
 | a :: r, b :: s, h => by
   simp only [sharedL] at h
   rw [List.cons_prefix_cons]
   split at h
   · rintro ⟨_, h2⟩
     exact shared_next r s (by simpa using h) h2
   · rename_i hne
     exact fun h2 => hne h2.1
theorem shared_pos {a p : List UInt8} (ha : a ≠ []) (hp : p ≠ []) (h : hdB a = hdB p) : 0 < sharedL a p := by
 obtain ⟨x, r, rfl⟩ := head_of_ne ha
 obtain ⟨y, s, rfl⟩ := head_of_ne hp
 simp only [hdB, List.headD_cons] at h
 have : x = y := UInt8.toNat_inj.1 (by omega)
 simp [sharedL, this]
def kidsOk (l : List Nd) (n : Nat) : Prop := (∀ t ∈ l, okT t n = true) /\ l.Pairwise fun a b => hdB a.lab < hdB b.lab
theorem okL_iff : ∀ {l : List Nd} {n : Nat} {f : Int}, okL l n f = true ↔ kidsOk l n /\ ∀ t ∈ l, f < hdB t.lab
 | [], n, f => by simp [okL, kidsOk]
 | t :: r, n, f => by
   simp only [okL, Bool.and_eq_true, decide_eq_true_eq, okL_iff (l := r), kidsOk, List.mem_cons, forall_eq_or_imp, List.pairwise_cons]
   constructor
   · rintro ⟨⟨h1, h2⟩, ⟨h3, h4⟩, h5⟩
     exact ⟨⟨⟨h1, h3⟩, h5, h4⟩, h2, fun x hx => by have := h5 x hx; omega⟩
   · rintro ⟨⟨⟨h1, h3⟩, h5, h4⟩, h2, _⟩
     exact ⟨⟨h1, h2⟩, ⟨h3, h4⟩, h5⟩
theorem okL_iff' {l : List Nd} {n : Nat} : okL l n (-1) = true ↔ kidsOk l n := by
 rw [okL_iff]
 exact ⟨fun h => h.1, fun h => ⟨h, fun t _ => by have := (hdB_lt t.lab).1; omega⟩⟩
theorem kidsOk_sub {l m : List Nd} {n : Nat} (h : kidsOk l n) (hs : m.Sublist l) : kidsOk m n := ⟨fun t ht => h.1 t (hs.subset ht), h.2.sublist hs⟩
theorem kidsOk_set {l : List Nd} {n i : Nat} {k : Nd} (h : kidsOk l n) (hi : i < l.length) (hk : okT k n = true) (hh : hdB k.lab = hdB l[i].lab) : kidsOk (l.set i k) n := by
 refine ⟨fun t ht => ?_, ?_⟩
 · rcases List.mem_or_eq_of_mem_set ht with h1 | h1
   · exact h.1 t h1
   · rw [h1]; exact hk
 · rw [List.pairwise_iff_getElem] at *
   intro a b ha hb hab
   have h2 := h.2
   rw [List.pairwise_iff_getElem] at h2
   rw [List.length_set] at ha hb
   have := h2 a b ha hb hab
   simp only [List.getElem_set]
   split <;> split <;> simp_all
theorem kidsOk_ins {l : List Nd} {n i : Nat} {k : Nd} (h : kidsOk l n) (hk : okT k n = true) (h1 : ∀ t ∈ l.take i, hdB t.lab < hdB k.lab) (h2 : ∀ t ∈ l.drop i, hdB k.lab < hdB t.lab) : kidsOk (l.take i ++ k :: l.drop i) n := by
 refine ⟨fun t ht => ?_, ?_⟩
 · rcases List.mem_append.1 ht with h3 | h3
   · exact h.1 t (List.mem_of_mem_take h3)
   · rcases List.mem_cons.1 h3 with rfl | h3
     · exact hk
     · exact h.1 t (List.mem_of_mem_drop h3)
 · rw [List.pairwise_append, List.pairwise_cons]
   refine ⟨h.2.sublist (List.take_sublist _ _), ⟨h2, h.2.sublist (List.drop_sublist _ _)⟩, fun a ha b hb => ?_⟩
   rcases List.mem_cons.1 hb with rfl | hb
   · exact h1 a ha
   · have := h1 a ha; have := h2 b hb; omega
theorem okT_iff {t : Nd} {n : Nat} : okT t n = true ↔ t.lab ≠ [] /\ t.lab.length <= n /\ right t.rows = true /\ (t.rows ≠ [] \/ 2 <= t.kids.length) /\ kidsOk t.kids (n - t.lab.length) := by
 rw [okT_eq]
 simp only [Bool.and_eq_true, decide_eq_true_eq, Bool.or_eq_true, okL_iff', and_assoc]
theorem hdB_app {a b : List UInt8} (h : a ≠ []) : hdB (a ++ b) = hdB a := by
 obtain ⟨x, r, rfl⟩ := head_of_ne h; rfl
theorem hdB_take {a : List UInt8} {n : Nat} (h : 0 < n) : hdB (a.take n) = hdB a := by
 cases a with
 | nil => simp
 | cons x r => cases n with
   | zero => omega
   | succ n => rfl
theorem entL_hd {l : List Nd} {n : Nat} (h : kidsOk l n) {e : Ent} (he : e ∈ entL l) : e.1 ≠ [] /\ ∃ t ∈ l, hdB e.1 = hdB t.lab := by
 obtain ⟨t, ht, s, hs⟩ := entL_pre he
 have hne := (okT_iff.1 (h.1 t ht)).1
 refine ⟨by rw [hs]; simp [hne], t, ht, by rw [hs, hdB_app hne]⟩
theorem joinN_ok {u : Nd} {n : Nat} (h0 : u.lab ≠ []) (h1 : u.lab.length <= n) (h2 : right u.rows = true) (h3 : kidsOk u.kids (n - u.lab.length)) :
   match joinN u with
   | some k => okT k n = true /\ hdB k.lab = hdB u.lab /\ entT k = entT u
   | none => entT u = [] := by
 unfold joinN
 by_cases c : u.rows ≠ [] \/ 2 <= u.kids.length
 · rw [if_pos c]
   exact ⟨okT_iff.2 ⟨h0, h1, h2, c, h3⟩, rfl, rfl⟩
 · rw [if_neg c]
   have c1 : u.rows = [] := by
     by_cases e : u.rows = []
     · exact e
     · exact absurd (.inl e) c
   cases hk : u.kids with
   | nil => simp only; rw [entT_eq, c1, hk]; simp [entL]
   | cons k r =>
     have : r = [] := by
       cases r with
       | nil => rfl
       | cons x y => exact absurd (.inr (by rw [hk]; simp)) c
     subst this
     simp only
     rw [hk] at h3
     obtain ⟨g1, g2, g9003, g9004, g9005⟩ := okT_iff.1 (h3.1 k (by simp))
     refine ⟨okT_iff.2 ⟨by simp [Nd.lab_node, h0], ?_, g9003, g9004, ?_⟩, ?_, ?_⟩
     · simp only [Nd.lab_node, List.length_append] at g2 ⊢; omega
     · simp only [Nd.lab_node, Nd.kids_node, List.length_append] at g9005 ⊢
       rw [<- Nat.sub_sub]; exact g9005
     · simp only [Nd.lab_node]; exact hdB_app h0
     · rw [entT_B, entT_B u, entB, entB, c1, hk]
       simp only [Nd.rows_node, Nd.kids_node, Nd.lab_node, entL, List.append_nil]
       rw [entT_B k]
       simp [ownB, entB, List.map_append, Function.comp_def]
theorem downN_ok {k : Nd} {n : Nat} {p : List UInt8} (h : okT k n = true) (hs : 0 < sharedL k.lab p) :
   (downN k p).lab = p.take (sharedL k.lab p) /\ (downN k p).lab ≠ [] /\ hdB (downN k p).lab = hdB k.lab /\ (downN k p).lab.length = sharedL k.lab p /\ right (downN k p).rows = true /\ kidsOk (downN k p).kids (n - sharedL k.lab p) /\ entT (downN k p) = entT k := by
 obtain ⟨g1, g2, g9003, g9004, g9005⟩ := okT_iff.1 h
 obtain ⟨s1, s2, s9003⟩ := shared_split k.lab p
 unfold downN
 split
 · rename_i c
   have hne : k.lab.take (sharedL k.lab p) ≠ [] := by
     intro e; have := congrArg List.length e; rw [List.length_take, List.length_nil] at this; omega
   refine ⟨s1, hne, hdB_take hs, by simp only [splitN, Nd.lab_node, List.length_take]; omega, rfl, ⟨fun t ht => ?_, List.pairwise_singleton _ _⟩, ?_⟩
   · simp only [splitN, Nd.kids_node, List.mem_singleton] at ht
     subst ht
     refine okT_iff.2 ⟨?_, ?_, g9003, g9004, ?_⟩
     · simp only [Nd.lab_node]
       intro e; have := congrArg List.length e; rw [List.length_drop, List.length_nil] at this; omega
     · simp only [Nd.lab_node, List.length_drop]; omega
     · simp only [Nd.lab_node, Nd.kids_node, List.length_drop]
       rw [show n - sharedL k.lab p - (k.lab.length - sharedL k.lab p) = n - k.lab.length by omega]; exact g9005
   · rw [entT_B, entT_B k]
     simp only [splitN, entB, Nd.rows_node, Nd.kids_node, Nd.lab_node, entL, List.append_nil]
     rw [entT_B]
     simp only [entB, ownB, Nd.rows_node, Nd.kids_node, Nd.lab_node, if_true, List.nil_append, List.map_map]
     refine List.map_congr_left fun e _ => ?_
     simp only [Function.comp]
     rw [<- List.append_assoc, List.take_append_drop]
 · have c : sharedL k.lab p = k.lab.length := by omega
   rw [c] at s1 ⊢
   rw [List.take_length] at s1
   exact ⟨s1, g1, rfl, rfl, g9003, g9005, rfl⟩
theorem insE_own {rs : List Row} {l : List Ent} {b : UInt8} {q : List UInt8} {r : List Row} : insE (ownB rs ++ l) (b :: q) r = ownB rs ++ insE l (b :: q) r := by
 refine insE_lt fun e he => ?_
 unfold ownB at he
 split at he
 · simp at he
 · simp only [List.mem_singleton] at he; subst he; rfl
theorem entB_node (a : Bys) (rs : List Row) (ks : List Nd) : entB (.node a rs ks) = ownB rs ++ entL ks := rfl
theorem hdB_cons (b : UInt8) (q : Bys) : hdB (b :: q) = (b.toNat : Int) := rfl
theorem putN_ok : ∀ (f : Nat) (t : Nd) (p : Bys) (rs : List Row) (n : Nat), p.length < f -> kidsOk t.kids n -> p.length <= n -> right rs = true -> right t.rows = true →
   (putN f t p rs).lab = t.lab /\ right (putN f t p rs).rows = true /\ kidsOk (putN f t p rs).kids n /\ (p ≠ [] -> (putN f t p rs).rows = t.rows) /\ entB (putN f t p rs) = insE (entB t) p rs
 | 0, t, p, rs, n, h, _, _, _, _ => by omega
 | f + 1, t, [], rs, n, hf, hk, hp, hr, ht => by
   refine ⟨rfl, hr, hk, fun h => absurd rfl h, ?_⟩
   simp only [putN, entB_node]
   have hgt : ∀ e ∈ entL t.kids, Op.bytesLess [] e.1 = true := fun e he => by
     obtain ⟨b, q, hb⟩ := head_of_ne (entL_hd hk he).1
     rw [hb]; rfl
   rw [entB]
   unfold ownB
   by_cases c : t.rows = []
   · rw [if_pos c, List.nil_append, insE_gt hgt]
   · rw [if_neg c]
     show _ = insE (([], t.rows) :: entL t.kids) [] rs
     rw [insE]
     by_cases c2 : rs = []
     · simp [Op.bytesLess, c2]
     · simp [Op.bytesLess, c2]
 | f + 1, t, b :: q, rs, n, hf, hk, hp, hr, ht => by
   have hrise : riseK t.kids := (okL_rise (okL_iff'.2 hk)).1
   obtain ⟨p1, p2⟩ := posK_find hrise (b.toNat : Int)
   have hple := posK_le t.kids (b.toNat : Int)
   have hne : b :: q ≠ [] := by simp
   generalize hi : posK t.kids (b.toNat : Int) = i at *
   have hA : ∀ e ∈ entL (t.kids.take i), Op.bytesLess e.1 (b :: q) = true := fun e he => by
     obtain ⟨e1, u, hu, e2⟩ := entL_hd (kidsOk_sub hk (List.take_sublist _ _)) he
     refine bl_hd e1 hne ?_
     obtain ⟨j, hj, rfl⟩ := List.getElem_of_mem hu
     rw [List.length_take] at hj
     rw [e2, hdB_cons, List.getElem_take]
     have := p1 j (by omega)
     rwa [getD_at' (by omega)] at this
   have hB : ∀ (m : Nat), i <= m -> (∀ h : m < t.kids.length, (b.toNat : Int) < hdB t.kids[m].lab) -> ∀ e ∈ entL (t.kids.drop m), Op.bytesLess (b :: q) e.1 = true := fun m hm hm2 e he => by
     obtain ⟨e1, u, hu, e2⟩ := entL_hd (kidsOk_sub hk (List.drop_sublist _ _)) he
     refine bl_hd hne e1 ?_
     obtain ⟨j, hj, rfl⟩ := List.getElem_of_mem hu
     rw [List.length_drop] at hj
     rw [e2, hdB_cons, List.getElem_drop]
     cases j with
     | zero => exact hm2 (by omega)
     | succ j =>
       have h1 := hm2 (by omega)
       have h2 := hrise m (m + (j + 1)) (by omega) (by omega)
       rw [getD_at' (by omega), getD_at' (by omega)] at h2
       omega
   simp only [putN, hi]
   by_cases c1 : hitK t.kids (b.toNat : Int) = true
   · rw [if_pos c1]
     unfold hitK at c1
     rw [hi] at c1
     simp only [Bool.and_eq_true, decide_eq_true_eq] at c1
     obtain ⟨c1, c2⟩ := c1
     rw [getD_at' c1] at c2 ⊢
     have hko := hk.1 _ (List.getElem_mem c1)
     obtain ⟨g1, g2, g9003, g9004, g9005⟩ := okT_iff.1 hko
     have hsp : 0 < sharedL t.kids[i].lab (b :: q) := shared_pos g1 hne (by rw [c2, hdB_cons])
     obtain ⟨s1, s2, s9003⟩ := shared_split t.kids[i].lab (b :: q)
     have hsplit : t.kids = t.kids.take i ++ t.kids[i] :: t.kids.drop (i + 1) := by
       rw [<- List.drop_eq_getElem_cons c1, List.take_append_drop]
     have hB' := hB (i + 1) (by omega) (fun h => by
       have h2 := hrise i (i + 1) (by omega) h
       rw [getD_at' c1, getD_at' h] at h2; omega)
     have hent : insE (entL t.kids) (b :: q) rs = entL (t.kids.take i) ++ (insE (entT t.kids[i]) (b :: q) rs ++ entL (t.kids.drop (i + 1))) := by
       conv => lhs; rw [hsplit, entL_app, entL]
       rw [insE_lt hA, insE_mid hB']
     by_cases c3 : sharedL t.kids[i].lab (b :: q) < t.kids[i].lab.length /\ rs = []
     · rw [if_pos c3]
       refine ⟨rfl, ht, hk, fun _ => rfl, ?_⟩
       obtain ⟨c3, rfl⟩ := c3
       rw [entB, insE_own, insE_absent (l := entL t.kids)]
       intro e he hh
       rw [hsplit, entL_app, entL] at he
       rcases List.mem_append.1 he with he | he
       · exact bl_ne (hA e he) hh
       rcases List.mem_append.1 he with he | he
       · obtain ⟨s, hs⟩ := entT_pre _ e he
         exact shared_next _ _ c3 ⟨s, by rw [<- hs, hh]⟩
       · exact bl_ne (hB' e he) hh.symm
     · rw [if_neg c3]
       obtain ⟨d1, d2, d3, d4, d5, d6, d7⟩ := downN_ok hko hsp
       obtain ⟨r1, r2, r3, _, r5⟩ := putN_ok f (downN t.kids[i] (b :: q)) ((b :: q).drop (sharedL t.kids[i].lab (b :: q))) rs (n - sharedL t.kids[i].lab (b :: q)) (by rw [List.length_drop]; omega) d6 (by rw [List.length_drop]; omega) hr d5
       generalize putN f (downN t.kids[i] (b :: q)) ((b :: q).drop (sharedL t.kids[i].lab (b :: q))) rs = u at *
       have hpu : insE (entT t.kids[i]) (b :: q) rs = entT u := by
         rw [<- d7, entT_B, entT_B u, r5, r1, <- insE_map, d1, List.take_append_drop]
       have hj := joinN_ok (u := u) (n := n) (by rw [r1]; exact d2) (by rw [r1, d4]; omega) r2 (by rw [r1, d4]; exact r3)
       have hfin : insE (entB t) (b :: q) rs = ownB t.rows ++ (entL (t.kids.take i) ++ (entT u ++ entL (t.kids.drop (i + 1)))) := by rw [entB, insE_own, hent, hpu]
       cases hju : joinN u with
       | none =>
         rw [hju] at hj
         refine ⟨rfl, ht, kidsOk_sub hk ?_, fun _ => rfl, ?_⟩
         · conv => rhs; rw [hsplit]
           exact List.Sublist.append (List.Sublist.refl _) (List.sublist_cons_self _ _)
         · simp only at hj
           rw [hfin, hj, setN, entB_node, entL_app]; simp
       | some k =>
         rw [hju] at hj
         obtain ⟨j1, j2, j3⟩ := hj
         refine ⟨rfl, ht, kidsOk_set hk c1 j1 (by rw [j2, r1, d3]), fun _ => rfl, ?_⟩
         rw [hfin, setN, entB_node, <- j3]
         have : t.kids.set i k = t.kids.take i ++ k :: t.kids.drop (i + 1) := by
           rw [List.set_eq_take_append_cons_drop, if_pos c1]
         rw [this, entL_app, entL]
   · rw [if_neg c1]
     have hB' := hB i (Nat.le_refl _) (fun h => by
       have h2 := p2 i (Nat.le_refl _) h
       rw [getD_at' h] at h2
       have : hdB t.kids[i].lab ≠ (b.toNat : Int) := fun e => c1 (by unfold hitK; rw [hi, getD_at' h]; simp [h, e])
       omega)
     have hent : insE (entL t.kids) (b :: q) rs = entL (t.kids.take i) ++ ((if rs = [] then [] else [(b :: q, rs)]) ++ entL (t.kids.drop i)) := by
       conv => lhs; rw [<- List.take_append_drop i t.kids, entL_app]
       rw [insE_lt hA, insE_gt hB']
     by_cases c2 : rs = []
     · rw [if_pos c2]
       refine ⟨rfl, ht, hk, fun _ => rfl, ?_⟩
       rw [entB, insE_own, hent, if_pos c2, List.nil_append, <- entL_app, List.take_append_drop]
     · rw [if_neg c2]
       refine ⟨rfl, ht, kidsOk_ins hk (okT_iff.2 ⟨hne, hp, hr, .inl c2, by simp [kidsOk, Nd.kids_node]⟩) (fun u hu => ?_) (fun u hu => ?_), fun _ => rfl, ?_⟩
       · obtain ⟨j, hj, rfl⟩ := List.getElem_of_mem hu
         rw [List.length_take] at hj
         rw [List.getElem_take]
         have := p1 j (by omega)
         rwa [getD_at' (by omega)] at this
       · obtain ⟨j, hj, rfl⟩ := List.getElem_of_mem hu
         rw [List.length_drop] at hj
         rw [List.getElem_drop]
         simp only [Nd.lab_node, hdB_cons]
         have h2 := p2 (i + j) (by omega) (by omega)
         rw [getD_at' (by omega)] at h2
         have : hdB t.kids[i + j].lab ≠ (b.toNat : Int) := fun e => by
           cases j with
           | zero => exact c1 (by unfold hitK; rw [hi, getD_at' (by omega)]; simp at e ⊢; exact ⟨by omega, e⟩)
           | succ j =>
             have h3 := hrise i (i + (j + 1)) (by omega) (by omega)
             have h4 := p2 i (Nat.le_refl _) (by omega)
             rw [getD_at' (i := i + (j + 1)) (by omega)] at h3
             omega
         omega
       · rw [show insE (entB t) (b :: q) rs = ownB t.rows ++ insE (entL t.kids) (b :: q) rs from insE_own, hent, if_neg c2, entB_node, entL_app, entL, entT_eq]
         simp [Nd.lab_node, Nd.rows_node, Nd.kids_node, entL, c2]
def putR (t : Nd) (p : Bys) (rs : List Row) : Nd := putN (p.length + 1) t p rs
theorem okR_iff {t : Nd} : okR t = true ↔ t.lab = [] /\ t.rows = [] /\ kidsOk t.kids 24 := by
 unfold okR
 simp only [Bool.and_eq_true, decide_eq_true_eq, okL_iff', and_assoc]
def entR (t : Nd) : List Ent := entL t.kids
theorem putR_ok {t : Nd} {p : List UInt8} {rs : List Row} (h : okR t = true) (h1 : p ≠ []) (h2 : p.length <= 24) (h3 : right rs = true) :
   okR (putR t p rs) = true /\ entR (putR t p rs) = insE (entR t) p rs := by
 obtain ⟨g1, g2, g9003⟩ := okR_iff.1 h
 obtain ⟨r1, r2, r3, r4, r5⟩ := putN_ok (p.length + 1) t p rs 24 (by omega) g9003 h2 h3 (by rw [g2]; rfl)
 refine ⟨okR_iff.2 ⟨r1.trans g1, (r4 h1).trans g2, r3⟩, ?_⟩
 unfold entB at r5
 rw [r4 h1, g2] at r5
 exact r5
end Go.Proofs.YtgaabjmbnomimaaGreatDoor
namespace Go.Proofs.YtgaabjmbnomimaaGreatDoor
open Go Go.Ev
def at0 (p : Bys) (n : Nat) : UInt8 := p.getD n 0
def commonF (l : List Ent) : Nat -> Nat -> Nat
 | 0, n => n
 | f + 1, n => if n >= (l.headD default).1.length \/ n >= 24 then n else if (l.all fun e => decide (n < e.1.length) && decide (at0 e.1 n = at0 (l.headD default).1 n)) = true then commonF l f (n + 1) else n
def commonL (l : List Ent) (n : Nat) : Nat := commonF l 25 n
def grp (l : List Ent) (b : UInt8) (n : Nat) : Nat := (l.takeWhile fun e => decide (at0 e.1 n = b)).length
mutual
def nodeF : Nat -> List Ent -> Nat -> Nd
 | 0, _, _ => default
 | f + 1, l, n =>
   if (l.headD default).1.length = commonL l n then .node (((l.headD default).1.take (commonL l n)).drop n) (l.headD default).2 (belowF f l.tail (commonL l n))
   else .node (((l.headD default).1.take (commonL l n)).drop n) [] (belowF f l (commonL l n))
def belowF : Nat -> List Ent -> Nat -> List Nd
 | 0, _, _ => []
 | _ + 1, [], _ => []
 | f + 1, e :: r, n => nodeF f ((e :: r).take (grp (e :: r) (at0 e.1 n) n)) n :: belowF f ((e :: r).drop (grp (e :: r) (at0 e.1 n) n)) n
end
def pre' (q : Bys) (l : List Ent) : List Ent := l.map fun e => (q ++ e.1, e.2)
theorem pre'_app (q : Bys) (a b : List Ent) : pre' q (a ++ b) = pre' q a ++ pre' q b := List.map_append
theorem entT_pre' (q : Bys) (t : Nd) : pre' q (entT t) = pre' (q ++ t.lab) (entB t) := by
 rw [entT_B]; simp [pre', Function.comp_def]
theorem at0_app (q s : Bys) : at0 (q ++ s) q.length = at0 s 0 := by simp [at0, List.getD_eq_getElem?_getD, List.getElem?_append_right]
theorem at0_hd {s t : List UInt8} (h : hdB s = hdB t) : at0 s 0 = at0 t 0 := by
 unfold hdB at h
 have : s.headD 0 = t.headD 0 := UInt8.toNat_inj.1 (by omega)
 cases s <;> cases t <;> simpa [at0] using this
theorem at0_ne {s t : List UInt8} (h : hdB s ≠ hdB t) : at0 s 0 ≠ at0 t 0 := fun e => h (by
 unfold hdB
 have : s.headD 0 = t.headD 0 := by cases s <;> cases t <;> simpa [at0] using e
 rw [this])
mutual
theorem entT_some : ∀ (t : Nd) (n : Nat), okT t n = true -> entT t ≠ []
 | .node lab rs ks, n, h => by
   obtain ⟨_, _, _, g9004, g9005⟩ := okT_iff.1 h
   simp only [Nd.rows_node, Nd.kids_node, Nd.lab_node] at g9004 g9005
   rw [entT]
   by_cases c : rs = []
   · rw [if_pos c]
     have h2 : 2 <= ks.length := by rcases g9004 with g | g; exact absurd c g; exact g
     have := entL_some ks _ g9005 (by intro e; rw [e] at h2; simp at h2)
     simpa using this
   · rw [if_neg c]; simp
theorem entL_some : ∀ (l : List Nd) (n : Nat), kidsOk l n -> l ≠ [] -> entL l ≠ []
 | [], _, _, h => absurd rfl h
 | t :: r, n, h, _ => by
   have := entT_some t n (h.1 t (by simp))
   simp [entL, this]
end
theorem commonF_go (l : List Ent) (m : Nat) (hl : ∀ e ∈ l, m <= e.1.length) (hm : m <= 24) (hne : l ≠ []) (hsame : ∀ n, n < m -> ∀ e ∈ l, at0 e.1 n = at0 (l.headD default).1 n)
   (hstop : (l.headD default).1.length = m \/ m = 24 \/ ∃ e ∈ l, e.1.length <= m \/ at0 e.1 m ≠ at0 (l.headD default).1 m) : ∀ (f n : Nat), n <= m -> m < n + f -> commonF l f n = m
 | 0, n, h1, h2 => by omega
 | f + 1, n, h1, h2 => by
   have hd : (l.headD default) ∈ l := by cases l with | nil => exact absurd rfl hne | cons a r => simp
   rw [commonF]
   rcases Nat.lt_or_ge n m with hlt | hge
   · have h3 := hl _ hd
     rw [if_neg (by omega), if_pos]
     · exact commonF_go l m hl hm hne hsame hstop f (n + 1) hlt (by omega)
     · rw [List.all_eq_true]
       intro e he
       have := hl e he
       simp only [Bool.and_eq_true, decide_eq_true_eq]
       exact ⟨by omega, hsame n hlt e he⟩
   · obtain rfl : n = m := by omega
     split
     · rfl
     · rename_i c
       rw [if_neg]
       rw [List.all_eq_true]
       intro hall
       rcases hstop with h | h | ⟨e, he, h⟩
       · omega
       · omega
       · have := hall e he
         simp only [Bool.and_eq_true, decide_eq_true_eq] at this
         rcases h with h | h
         · omega
         · exact h this.2
theorem at0_pre {q s : List UInt8} {n : Nat} (h : n < q.length) : at0 (q ++ s) n = at0 q n := by
 simp [at0, List.getD_eq_getElem?_getD, List.getElem?_append_left h]
mutual
def sizeT : Nd -> Nat
 | .node _ _ ks => sizeL ks + 2
def sizeL : List Nd -> Nat
 | [] => 1
 | t :: r => sizeT t + sizeL r + 1
end
mutual
theorem nodeF_ent : ∀ (t : Nd) (q : Bys) (f n : Nat), okT t n = true -> q.length + n <= 24 -> sizeT t <= f -> nodeF f (pre' q (entT t)) q.length = t
 | .node lab rs ks, q, f, n, h, hq, hf => by
   obtain ⟨g1, g2, g9003, g9004, g9005⟩ := okT_iff.1 h
   simp only [Nd.rows_node, Nd.kids_node, Nd.lab_node] at g1 g2 g9003 g9004 g9005
   rw [sizeT] at hf
   obtain ⟨f, rfl⟩ : ∃ k, f = k + 1 := ⟨f - 1, by omega⟩
   have hl : pre' q (entT (.node lab rs ks)) = pre' (q ++ lab) (ownB rs ++ entL ks) := by rw [entT_pre']; rfl
   have hne : pre' q (entT (.node lab rs ks)) ≠ [] := by
     have := entT_some _ _ h
     simpa [pre'] using this
   have hlen : ∀ e ∈ pre' q (entT (.node lab rs ks)), ∃ s, e.1 = (q ++ lab) ++ s := by
     rw [hl]
     intro e he
     simp only [pre', List.mem_map] at he
     obtain ⟨x, _, rfl⟩ := he
     exact ⟨x.1, rfl⟩
   have hd : ((pre' q (entT (.node lab rs ks))).headD default) ∈ pre' q (entT (.node lab rs ks)) := by
     cases hx : pre' q (entT (.node lab rs ks)) with | nil => exact absurd hx hne | cons a r => simp
   obtain ⟨s0, hs0⟩ := hlen _ hd
   have hkl : ∀ {k : Nd} {r : List Nd}, ks = k :: r -> ∃ x xs, entL ks = x :: xs /\ hdB x.1 = hdB k.lab /\ x.1 ≠ [] := fun {k r} hk => by
     have h1 := entT_some k _ (g9005.1 k (by rw [hk]; simp))
     cases hx : entT k with
     | nil => exact absurd hx h1
     | cons x xs =>
       obtain ⟨s, hs⟩ := entT_pre k x (by rw [hx]; simp)
       have hkn := (okT_iff.1 (g9005.1 k (by rw [hk]; simp))).1
       exact ⟨x, xs ++ entL r, by rw [hk, entL, hx]; rfl, by rw [hs, hdB_app hkn], by rw [hs]; simp [hkn]⟩
   have hcom : commonL (pre' q (entT (.node lab rs ks))) q.length = (q ++ lab).length := by
     refine commonF_go _ _ (fun e he => ?_) (by simp; omega) hne (fun n hn e he => ?_) ?_ 25 q.length (by simp) (by simp; omega)
     · obtain ⟨s, hs⟩ := hlen e he
       rw [hs]; simp
     · obtain ⟨s, hs⟩ := hlen e he
       rw [hs, hs0, at0_pre hn, at0_pre hn]
     · by_cases c : rs = []
       · have h2 : 2 <= ks.length := by rcases g9004 with g | g; exact absurd c g; exact g
         match ks, h2 with
         | k1 :: k2 :: r, _ =>
           obtain ⟨x, xs, e1, e2, e3⟩ := hkl rfl
           have h3 := entT_some k2 _ (g9005.1 k2 (by simp))
           cases hy : entT k2 with
           | nil => exact absurd hy h3
           | cons y ys =>
             obtain ⟨s, hs⟩ := entT_pre k2 y (by rw [hy]; simp)
             have hkn := (okT_iff.1 (g9005.1 k2 (by simp))).1
             have hlt : hdB k1.lab < hdB k2.lab := by have := g9005.2; rw [List.pairwise_cons] at this; exact this.1 k2 (by simp)
             refine .inr (.inr ⟨((q ++ lab) ++ y.1, y.2), ?_, .inr ?_⟩)
             · rw [hl]
               refine List.mem_map_of_mem (f := fun e : Ent => ((q ++ lab) ++ e.1, e.2)) ?_
               rw [List.mem_append]; right
               simp [entL, hy]
             · have e0 : (pre' q (entT (.node lab rs (k1 :: k2 :: r)))).headD default = ((q ++ lab) ++ x.1, x.2) := by
                 rw [hl, c]
                 simp [ownB, e1, pre']
               rw [e0]
               simp only
               rw [at0_app, at0_app]
               refine at0_ne ?_
               rw [e2, hs, hdB_app hkn]; omega
       · left
         rw [hl, ownB, if_neg c]
         simp [pre']
   have hcl : (((pre' q (entT (.node lab rs ks))).headD default).1.take (q ++ lab).length).drop q.length = lab := by
     rw [hs0, List.take_left']
     · simp
     · rfl
   rw [nodeF, hcom, hcl]
   by_cases c : rs = []
   · have h2 : 2 <= ks.length := by rcases g9004 with g | g; exact absurd c g; exact g
     have hks : ks ≠ [] := by intro e; rw [e] at h2; simp at h2
     obtain ⟨k, r, hk⟩ : ∃ k r, ks = k :: r := by cases ks with | nil => exact absurd rfl hks | cons k r => exact ⟨k, r, rfl⟩
     obtain ⟨x, xs, e1, e2, e3⟩ := hkl hk
     have e0 : pre' q (entT (.node lab rs ks)) = pre' (q ++ lab) (entL ks) := by rw [hl, c]; rfl
     rw [if_neg, e0, belowF_ent ks (q ++ lab) f (n - lab.length) g9005 (by simp; omega) (by omega), c]
     rw [e0, e1]
     simp only [pre', List.map_cons, List.headD_cons, List.length_append]
     have := List.length_pos_iff.2 e3
     omega
   · have e0 : pre' q (entT (.node lab rs ks)) = (q ++ lab, rs) :: pre' (q ++ lab) (entL ks) := by
       rw [hl, ownB, if_neg c]; simp [pre']
     rw [e0]
     simp only [List.headD_cons, List.tail_cons, if_true]
     rw [belowF_ent ks (q ++ lab) f (n - lab.length) g9005 (by simp; omega) (by omega)]
theorem belowF_ent : ∀ (l : List Nd) (q : Bys) (f n : Nat), kidsOk l n -> q.length + n <= 24 -> sizeL l <= f -> belowF f (pre' q (entL l)) q.length = l
 | [], q, f, n, _, _, hf => by
   rw [sizeL] at hf
   obtain ⟨f, rfl⟩ : ∃ k, f = k + 1 := ⟨f - 1, by omega⟩
   rfl
 | t :: r, q, f, n, h, hq, hf => by
   rw [sizeL] at hf
   obtain ⟨f, rfl⟩ : ∃ k, f = k + 1 := ⟨f - 1, by omega⟩
   have hT := h.1 t (by simp)
   have hne := (okT_iff.1 hT).1
   have hr : kidsOk r n := kidsOk_sub h (List.sublist_cons_self _ _)
   have hlt : ∀ k ∈ r, hdB t.lab < hdB k.lab := by have := h.2; rw [List.pairwise_cons] at this; exact this.1
   have h1 := entT_some t n hT
   have hA : ∀ e ∈ pre' q (entT t), at0 e.1 q.length = at0 t.lab 0 := fun e he => by
     simp only [pre', List.mem_map] at he
     obtain ⟨x, hx, rfl⟩ := he
     obtain ⟨s, hs⟩ := entT_pre t x hx
     simp only
     rw [at0_app]
     exact at0_hd (by rw [hs, hdB_app hne])
   have hB : ∀ e ∈ pre' q (entL r), at0 e.1 q.length ≠ at0 t.lab 0 := fun e he => by
     simp only [pre', List.mem_map] at he
     obtain ⟨x, hx, rfl⟩ := he
     obtain ⟨_, k, hk, hs⟩ := entL_hd hr hx
     simp only
     rw [at0_app]
     refine at0_ne ?_
     have := hlt k hk
     omega
   have hp : pre' q (entL (t :: r)) = pre' q (entT t) ++ pre' q (entL r) := by rw [entL, pre'_app]
   cases hx : pre' q (entT t) with
   | nil => simp [pre'] at hx; exact absurd hx h1
   | cons e es =>
     have hg : grp (pre' q (entL (t :: r))) (at0 e.1 q.length) q.length = (pre' q (entT t)).length := by
       rw [hp]
       unfold grp
       rw [hA e (by rw [hx]; simp), List.takeWhile_append_of_pos (fun a ha => by simpa using hA a ha)]
       have : (pre' q (entL r)).takeWhile (fun e => decide (at0 e.1 q.length = at0 t.lab 0)) = [] := by
         cases hy : pre' q (entL r) with
         | nil => rfl
         | cons y ys => rw [List.takeWhile_cons_of_neg (by simpa using hB y (by rw [hy]; simp))]
       rw [this]; simp
     have hc : pre' q (entL (t :: r)) = e :: (es ++ pre' q (entL r)) := by rw [hp, hx]; rfl
     have hgo : belowF (f + 1) (pre' q (entL (t :: r))) q.length = nodeF f ((pre' q (entL (t :: r))).take (pre' q (entT t)).length) q.length :: belowF f ((pre' q (entL (t :: r))).drop (pre' q (entT t)).length) q.length := by
       rw [<- hg, hc, belowF]
     rw [hgo, hp, List.take_left', List.drop_left', nodeF_ent t q f n hT hq (by omega), belowF_ent r q f n hr hq (by omega)]
     · rfl
     · rfl
end
end Go.Proofs.YtgaabjmbnomimaaGreatDoor
