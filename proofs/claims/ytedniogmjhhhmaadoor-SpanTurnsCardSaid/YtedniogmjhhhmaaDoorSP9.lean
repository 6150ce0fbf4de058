/-
  Chapter 02 (span): the reference's Width, Runes, Right.
-/
import Derived.Test.YtedniogmjhhhmaaDoorST5
set_option linter.all false
set_option linter.unusedSimpArgs false
set_option linter.unusedVariables false
namespace Go.Proofs.YtedniogmjhhhmaaDoor
open Go Go.Ev

theorem byte_lt (b : UInt8) : ((b.toNat : Nat) : Int) < 256 := by have := b.toNat_lt; omega
theorem wrap_byte (b : UInt8) : IntKind.wrap .i64 ((b.toNat : Nat) : Int) = ((b.toNat : Nat) : Int) := by
  have := byte_lt b
  exact wrap_same (by omega) (by omega)
theorem tdiv_nat (a b : Nat) : ((a : Nat) : Int).tdiv (b : Int) = ((a / b : Nat) : Int) := rfl
theorem tmod_nat (a b : Nat) : ((a : Nat) : Int).tmod (b : Int) = ((a % b : Nat) : Int) := rfl

theorem loop66 (s : List UInt8) (i n c least : Int) (hs : s.length < 1000000) (h0 : 0 ≤ i) (hi : i < 1000000) (hn : 2 ≤ n) (hn4 : n ≤ 4) (hc : 0 ≤ c) (hc1 : c < 256) : p66.fd (.ls 0 (s66_0 s i n c least 1)) = some (.out [V.i (widthE s i n c least)] []) := by
  have key := list_post (p := p66) ctOf_nil (b := b66_0) (n - 1).toNat (fun k (c : Int) => s66_0 s i n c least (k + 1)) (fun k c' => widthG s i ((n - 1).toNat - k) (k + 1) c' = widthG s i (n - 1).toNat 1 c ∧ 0 ≤ c' ∧ c' < 256 * 64 ^ k)
    (fun x => p66.fd (p66.fkx 0 x) = some (.out [V.i (widthE s i n c least)] [])) ?_ ?_ 0 (Nat.zero_le _) c ⟨by simp, hc, by simpa using hc1⟩
  · exact fd_post ctOf_nil (by kernel_rfl) rfl (by simpa using key)
  · rintro k c' hk ⟨h1, h2, h3⟩
    have hk3 : k < 3 := by omega
    have e1 : (n - 1).toNat - k = ((n - 1).toNat - (k + 1)) + 1 := by omega
    rw [e1, widthG] at h1
    rw [t66_0]
    have w1 : IntKind.wrap .i64 (i + ((k : Int) + 1)) = i + ((k : Int) + 1) := wrap_same (by omega) (by omega)
    have w2 : IntKind.wrap .i64 ((k : Int) + 1 + 1) = ((k + 1 : Nat) : Int) + 1 := by rw [wrap_same (by omega) (by omega)]; omega
    have hb := byte_lt (s.getD (i + ((k : Int) + 1)).toNat 0)
    have hpow : (256 : Int) * 64 ^ k ≤ 1048576 ∧ (256 : Int) * 64 ^ (k + 1) = 64 * (256 * 64 ^ k) := by
      refine ⟨?_, by rw [Int.pow_succ]; omega⟩
      rcases (show k = 0 ∨ k = 1 ∨ k = 2 by omega) with rfl | rfl | rfl <;> decide
    generalize hbb : s.getD (i + ((k : Int) + 1)).toNat 0 = b at *
    have w3 : IntKind.wrap .i64 (64 * c') = 64 * c' := wrap_same (by omega) (by omega)
    have hm : ((b.toNat : Nat) : Int).tmod 64 = ((b.toNat % 64 : Nat) : Int) := rfl
    have hd : ((b.toNat : Nat) : Int).tdiv 64 = ((b.toNat / 64 : Nat) : Int) := rfl
    have w4 : IntKind.wrap .i64 (64 * c' + ((b.toNat % 64 : Nat) : Int)) = 64 * c' + ((b.toNat % 64 : Nat) : Int) := wrap_same (by omega) (by omega)
    have w5 : IntKind.wrap .i64 ((b.toNat / 64 : Nat) : Int) = ((b.toNat / 64 : Nat) : Int) := wrap_same (by omega) (by omega)
    have c1 : (k : Int) + 1 < n := by omega
    have c2 : 0 ≤ i + ((k : Int) + 1) := by omega
    simp only [ld_br, ld_chk', ld_leaf, fd_br, fd_chk', fd_leaf, decide_true, decide_eq_true_eq, if_true, Int.toNat_natCast, Int.natCast_nonneg, Int.ofNat_lt, Int.ofNat_le, Bool.false_eq_true, if_false, bne_iff_ne, beq_iff_eq, ne_eq, not_true_eq_false, not_false_eq_true, Bool.not_eq_true', decide_eq_false_iff_not, reduceCtorEq, rows_length, pcs_length, er_ok, er_ok', ep_ok, ep_ok', dr_er, dp_ep, isRows_rows, isPcs_pcs, toRows_rows, toPcs_pcs, rows_take, rows_drop, pcs_take, pcs_drop, rows_append, pcs_append, ints_length, isInts_ints, toInts_ints, ei_i, ei_ok, mk_headD, ints_take, ints_drop, ints_append, ints_snoc, ints_snoc', List.take_length, Nat.zero_add, Nat.le_refl, er_a, er_b, er_k, er_n, er_s, er_v, ep_a, ep_b, ep_hk, ep_hn, ep_hs, ep_wk, ep_wn, ep_ws, w1, w2, wrap_byte, w3, hm, hd, w4, w5, c1, c2, hbb]
    have ex0 : p66.fd (p66.fkx 0 x66_0x0) = some (.out [V.i 0] []) := by rw [k66_0x0, fd_leaf]
    by_cases g1 : (s.length : Int) ≤ i + ((k : Int) + 1)
    · right
      rw [if_pos g1] at h1
      exact ⟨x66_0x0, by simp, by rw [ex0, widthE, ← h1], by rw [if_pos g1]⟩
    · rw [if_neg g1] at h1
      have c3 : (i + ((k : Int) + 1)).toNat < s.length := by omega
      rw [if_neg g1, if_pos c3]
      rw [hd, hm] at h1
      by_cases g2 : ((b.toNat / 64 : Nat) : Int) = 2
      · left
        rw [if_neg (fun h => h g2)] at h1
        refine ⟨64 * c' + ((b.toNat % 64 : Nat) : Int), ⟨by rw [← h1]; simp only [Int.natCast_add, Int.natCast_one], by omega, by rw [hpow.2]; omega⟩, ?_⟩
        rw [if_neg (fun h => h g2)]
        simp only [Int.natCast_add, Int.natCast_one, if_pos c3]
      · right
        rw [if_pos g2] at h1
        exact ⟨x66_0x0, by simp, by rw [ex0, widthE, ← h1], by rw [if_pos g2]⟩
  · rintro c' ⟨h1, h2, h3⟩
    rw [Nat.sub_self, widthG] at h1
    rw [t66_0]
    have c1 : ¬ ((((n - 1).toNat : Nat) : Int) + 1 < n) := by omega
    refine ⟨x66_0x1 s i n c' least (((n - 1).toNat : Nat) + 1), by simp, ?_, by simp only [ld_br, ld_chk', ld_leaf, fd_br, fd_chk', fd_leaf, decide_true, decide_eq_true_eq, if_true, Int.toNat_natCast, Int.natCast_nonneg, Int.ofNat_lt, Int.ofNat_le, Bool.false_eq_true, if_false, bne_iff_ne, beq_iff_eq, ne_eq, not_true_eq_false, not_false_eq_true, Bool.not_eq_true', decide_eq_false_iff_not, reduceCtorEq, rows_length, pcs_length, er_ok, er_ok', ep_ok, ep_ok', dr_er, dp_ep, isRows_rows, isPcs_pcs, toRows_rows, toPcs_pcs, rows_take, rows_drop, pcs_take, pcs_drop, rows_append, pcs_append, ints_length, isInts_ints, toInts_ints, ei_i, ei_ok, mk_headD, ints_take, ints_drop, ints_append, ints_snoc, ints_snoc', List.take_length, Nat.zero_add, Nat.le_refl, er_a, er_b, er_k, er_n, er_s, er_v, ep_a, ep_b, ep_hk, ep_hn, ep_hs, ep_wk, ep_wn, ep_ws, c1]⟩
    rw [k66_0x1, widthE, ← h1]
    simp only [ld_br, ld_chk', ld_leaf, fd_br, fd_chk', fd_leaf, decide_true, decide_eq_true_eq, if_true, Int.toNat_natCast, Int.natCast_nonneg, Int.ofNat_lt, Int.ofNat_le, Bool.false_eq_true, if_false, bne_iff_ne, beq_iff_eq, ne_eq, not_true_eq_false, not_false_eq_true, Bool.not_eq_true', decide_eq_false_iff_not, reduceCtorEq, rows_length, pcs_length, er_ok, er_ok', ep_ok, ep_ok', dr_er, dp_ep, isRows_rows, isPcs_pcs, toRows_rows, toPcs_pcs, rows_take, rows_drop, pcs_take, pcs_drop, rows_append, pcs_append, ints_length, isInts_ints, toInts_ints, ei_i, ei_ok, mk_headD, ints_take, ints_drop, ints_append, ints_snoc, ints_snoc', List.take_length, Nat.zero_add, Nat.le_refl, er_a, er_b, er_k, er_n, er_s, er_v, ep_a, ep_b, ep_hk, ep_hn, ep_hs, ep_wk, ep_wn, ep_ws]
    by_cases g1 : c' < least
    · simp only [g1, if_true]
    · simp only [g1, if_false]
      by_cases g2 : 55296 ≤ c'
      · by_cases g3 : c' < 57344
        · simp [g2, g3]
        · by_cases g4 : 1114111 < c' <;> simp [g2, g3, g4]
      · by_cases g4 : 1114111 < c' <;> simp [g2, g4]

theorem f66 (s : List UInt8) (i : Int) (hs : s.length < 1000000) (hi : i < 1000000) : call E 66 [.c (.str s), V.i i] [] = some ([V.i (widthR s i)], []) := by
  refine call_of (E := E) (sh := sh) (ct := ctOf []) (na := 2) (m := 0) ctOf_nil rfl rfl rfl rfl rfl rfl ?_
  rw [t66]
  simp only [fd_br, fd_chk', fd_leaf, decide_eq_true_eq, wrap_byte]
  unfold widthR
  by_cases h0 : i < 0
  · simp [h0]
  · by_cases h1 : (s.length : Int) ≤ i
    · simp [h0, h1]
    · have c1 : i.toNat < s.length := by omega
      have c2 : 0 ≤ i := by omega
      simp only [h0, h1, if_false, c1, c2, if_true, or_self]
      have hb := byte_lt (s.getD i.toNat 0)
      generalize hbb : ((s.getD i.toNat 0).toNat : Int) = b at *
      have hb0 : 0 ≤ b := by omega
      by_cases g1 : b < 128
      · simp only [g1, if_true]
      · simp only [g1, if_false]
        by_cases g2 : 192 ≤ b ∧ b < 224
        · have : IntKind.wrap .i64 (b - 192) = b - 192 := wrap_same (by omega) (by omega)
          simp only [g2.1, g2.2, and_self, if_true, this]
          exact loop66 s i 2 (b - 192) 128 hs c2 hi (by omega) (by omega) (by omega) (by omega)
        · rw [if_neg g2]
          by_cases g3 : 224 ≤ b ∧ b < 240
          · have : IntKind.wrap .i64 (b - 224) = b - 224 := wrap_same (by omega) (by omega)
            have g4 : 192 ≤ b := by omega
            have g5 : ¬ b < 224 := by omega
            simp only [g3.1, g3.2, and_self, if_true, this, g4, g5, if_false]
            exact loop66 s i 3 (b - 224) 2048 hs c2 hi (by omega) (by omega) (by omega) (by omega)
          · rw [if_neg g3]
            by_cases g6 : 240 ≤ b ∧ b < 248
            · have : IntKind.wrap .i64 (b - 240) = b - 240 := wrap_same (by omega) (by omega)
              have g4 : 192 ≤ b := by omega
              have g5 : ¬ b < 224 := by omega
              have g7 : 224 ≤ b := by omega
              have g8 : ¬ b < 240 := by omega
              simp only [g6.1, g6.2, and_self, if_true, this, g4, g5, g7, g8, if_false]
              exact loop66 s i 4 (b - 240) 65536 hs c2 hi (by omega) (by omega) (by omega) (by omega)
            · rw [if_neg g6]
              repeat' split
              all_goals first | rfl | (exfalso; omega)
theorem s66_ok : CSpecOk E 66 s66 := by
  intro a h cs vals h' he hc
  unfold s66 at he
  split at he <;> simp only [Option.some.injEq, Prod.mk.injEq, reduceCtorEq] at he
  obtain ⟨rfl, rfl, rfl⟩ := he
  simp only [allT, Bool.and_eq_true, and_true, decide_eq_true_eq] at hc
  exact f66 _ _ hc.1 hc.2

/-! ## the reference's code points are the library's -/
def finW (n c least : Nat) : Nat := if c < least then 0 else if 55296 ≤ c ∧ c < 57344 then 0 else if 1114111 < c then 0 else n
def wN (v0 v1 v2 v3 : Nat) (p1 p2 p3 : Bool) : Nat :=
  if v0 < 128 then 1 else if 192 ≤ v0 ∧ v0 < 224 then (if p1 = true ∧ v1 / 64 = 2 then finW 2 (64 * (v0 - 192) + v1 % 64) 128 else 0)
  else if 224 ≤ v0 ∧ v0 < 240 then (if p1 = true ∧ v1 / 64 = 2 then (if p2 = true ∧ v2 / 64 = 2 then finW 3 (64 * (64 * (v0 - 224) + v1 % 64) + v2 % 64) 2048 else 0) else 0)
  else if 240 ≤ v0 ∧ v0 < 248 then (if p1 = true ∧ v1 / 64 = 2 then (if p2 = true ∧ v2 / 64 = 2 then (if p3 = true ∧ v3 / 64 = 2 then finW 4 (64 * (64 * (64 * (v0 - 240) + v1 % 64) + v2 % 64) + v3 % 64) 65536 else 0) else 0) else 0)
  else 0
def finI (n least : Int) : Option Int → Int
  | none => 0
  | some c => if c < least then 0 else if 55296 ≤ c ∧ c < 57344 then 0 else if 1114111 < c then 0 else n
theorem widthE_fin (s : List UInt8) (i n c least : Nat) (hn : 1 ≤ n) : widthE s i n c least = finI n least (widthG s i (n - 1) 1 c) := by
  unfold widthE
  rw [show ((n : Int) - 1).toNat = n - 1 by omega]
  rfl
theorem widthG_step (s : List UInt8) (i k f c : Nat) : widthG s i (f + 1) k c = if i + k < s.length ∧ (s.getD (i + k) 0).toNat / 64 = 2 then widthG s i f ((k + 1 : Nat) : Int) ((64 * c + (s.getD (i + k) 0).toNat % 64 : Nat) : Int) else none := by
  rw [widthG]
  have e : ((i : Int) + (k : Int)).toNat = i + k := by omega
  have htd : ((s.getD (i + k) 0).toNat : Int).tdiv 64 = (((s.getD (i + k) 0).toNat / 64 : Nat) : Int) := rfl
  have htm : ((s.getD (i + k) 0).toNat : Int).tmod 64 = (((s.getD (i + k) 0).toNat % 64 : Nat) : Int) := rfl
  rw [e, htd, htm]
  by_cases h1 : i + k < s.length
  · by_cases h2 : (s.getD (i + k) 0).toNat / 64 = 2
    · have h3 : ¬ (s.length : Int) ≤ (i : Int) + k := by omega
      have h4 : (((s.getD (i + k) 0).toNat / 64 : Nat) : Int) = 2 := by omega
      rw [if_neg h3, if_neg (fun h => h h4), if_pos ⟨h1, h2⟩]
      congr 1
    · have h3 : ¬ (s.length : Int) ≤ (i : Int) + k := by omega
      have h4 : (((s.getD (i + k) 0).toNat / 64 : Nat) : Int) ≠ 2 := by omega
      rw [if_neg h3, if_pos h4, if_neg (fun h => h2 h.2)]
  · have h3 : (s.length : Int) ≤ (i : Int) + k := by omega
    rw [if_pos h3, if_neg (fun h => h1 h.1)]
theorem fin_cast (n c least : Nat) : (if (c : Int) < least then 0 else if 55296 ≤ (c : Int) ∧ (c : Int) < 57344 then 0 else if 1114111 < (c : Int) then 0 else (n : Int)) = (finW n c least : Nat) := by
  unfold finW
  by_cases h1 : c < least
  · rw [if_pos (by omega), if_pos h1]; rfl
  · rw [if_neg (by omega), if_neg h1]
    by_cases h2 : 55296 ≤ c ∧ c < 57344
    · rw [if_pos (by omega), if_pos h2]; rfl
    · rw [if_neg (by omega), if_neg h2]
      by_cases h3 : 1114111 < c
      · rw [if_pos (by omega), if_pos h3]; rfl
      · rw [if_neg (by omega), if_neg h3]
theorem finI_cast (n c least : Nat) : finI n least (some (c : Int)) = (finW n c least : Nat) := fin_cast n c least
theorem fin2 (c : Nat) : finI 2 128 (some (c : Int)) = (finW 2 c 128 : Nat) := finI_cast 2 c 128
theorem fin3 (c : Nat) : finI 3 2048 (some (c : Int)) = (finW 3 c 2048 : Nat) := finI_cast 3 c 2048
theorem fin4 (c : Nat) : finI 4 65536 (some (c : Int)) = (finW 4 c 65536 : Nat) := finI_cast 4 c 65536
theorem width_n (s : List UInt8) (i : Nat) (h : i < s.length) : widthR s i = (wN (s.getD i 0).toNat (s.getD (i + 1) 0).toNat (s.getD (i + 2) 0).toNat (s.getD (i + 3) 0).toNat (decide (i + 1 < s.length)) (decide (i + 2 < s.length)) (decide (i + 3 < s.length)) : Nat) := by
  have hne : ¬ ((i : Int) < 0 ∨ (s.length : Int) ≤ i) := by omega
  unfold widthR wN
  rw [if_neg hne]
  simp only [Int.toNat_natCast, decide_eq_true_eq]
  generalize (s.getD i 0).toNat = v0
  have E : ∀ (n d least : Nat), 1 ≤ n → d ≤ v0 → widthE s i (n : Int) ((v0 : Int) - d) least = finI n least (widthG s i (n - 1) 1 ((v0 - d : Nat) : Int)) := fun n d least hn hd => by
    rw [← widthE_fin s i n (v0 - d) least hn, show ((v0 : Int) - d) = ((v0 - d : Nat) : Int) by omega]
  by_cases c0 : v0 < 128
  · rw [if_pos (by omega), if_pos c0]; rfl
  rw [if_neg (by omega), if_neg c0]
  by_cases c1 : 192 ≤ v0 ∧ v0 < 224
  · rw [if_pos (by omega), if_pos c1]
    have this : widthE s i 2 ((v0 : Int) - 192) 128 = finI 2 128 (widthG s i (2 - 1) 1 ((v0 - 192 : Nat) : Int)) := E 2 192 128 (by omega) c1.1
    rw [this, show (2 - 1 : Nat) = 0 + 1 from rfl, show (1 : Int) = ((1 : Nat) : Int) from rfl, widthG_step]
    by_cases h1 : i + 1 < s.length ∧ (s.getD (i + 1) 0).toNat / 64 = 2
    · rw [if_pos h1, if_pos h1, widthG]
      rw [fin2]
    · rw [if_neg h1, if_neg h1]; rfl
  rw [if_neg (by omega), if_neg c1]
  by_cases c2 : 224 ≤ v0 ∧ v0 < 240
  · rw [if_pos (by omega), if_pos c2]
    have this : widthE s i 3 ((v0 : Int) - 224) 2048 = finI 3 2048 (widthG s i (3 - 1) 1 ((v0 - 224 : Nat) : Int)) := E 3 224 2048 (by omega) c2.1
    rw [this, show (3 - 1 : Nat) = 1 + 1 from rfl, show (1 : Int) = ((1 : Nat) : Int) from rfl, widthG_step]
    by_cases h1 : i + 1 < s.length ∧ (s.getD (i + 1) 0).toNat / 64 = 2
    · rw [if_pos h1, if_pos h1, show (1 : Nat) = 0 + 1 from rfl, widthG_step]
      by_cases h2 : i + 2 < s.length ∧ (s.getD (i + 2) 0).toNat / 64 = 2
      · rw [if_pos h2, if_pos h2, widthG]
        rw [fin3]
      · rw [if_neg h2, if_neg h2]; rfl
    · rw [if_neg h1, if_neg h1]; rfl
  rw [if_neg (by omega), if_neg c2]
  by_cases c3 : 240 ≤ v0 ∧ v0 < 248
  · rw [if_pos (by omega), if_pos c3]
    have this : widthE s i 4 ((v0 : Int) - 240) 65536 = finI 4 65536 (widthG s i (4 - 1) 1 ((v0 - 240 : Nat) : Int)) := E 4 240 65536 (by omega) c3.1
    rw [this, show (4 - 1 : Nat) = 2 + 1 from rfl, show (1 : Int) = ((1 : Nat) : Int) from rfl, widthG_step]
    by_cases h1 : i + 1 < s.length ∧ (s.getD (i + 1) 0).toNat / 64 = 2
    · rw [if_pos h1, if_pos h1, show (2 : Nat) = 1 + 1 from rfl, widthG_step]
      by_cases h2 : i + 2 < s.length ∧ (s.getD (i + 2) 0).toNat / 64 = 2
      · rw [if_pos h2, if_pos h2, widthG_step]
        by_cases h3 : i + 3 < s.length ∧ (s.getD (i + 3) 0).toNat / 64 = 2
        · rw [if_pos h3, if_pos h3, widthG]
          rw [fin4]
        · rw [if_neg h3, if_neg h3]; rfl
      · rw [if_neg h2, if_neg h2]; rfl
    · rw [if_neg h1, if_neg h1]; rfl
  rw [if_neg (by omega), if_neg c3]; rfl
def dN (v0 v1 v2 v3 : Nat) (p1 p2 p3 : Bool) : Nat × Nat :=
  if v0 < 0x80 then (v0, 1)
  else if v0 / 32 == 6 && (p1 && v1 / 64 == 2) then
    let c := (v0 % 32) * 64 + v1 % 64
    if c ≥ 0x80 then (c, 2) else (Utf8.runeError, 1)
  else if v0 / 16 == 14 && (p1 && v1 / 64 == 2) && (p2 && v2 / 64 == 2) then
    let c := (v0 % 16) * 4096 + (v1 % 64) * 64 + v2 % 64
    if c ≥ 0x800 && Utf8.valid c then (c, 3) else (Utf8.runeError, 1)
  else if v0 / 8 == 30 && (p1 && v1 / 64 == 2) && (p2 && v2 / 64 == 2) && (p3 && v3 / 64 == 2) then
    let c := (v0 % 8) * 262144 + (v1 % 64) * 4096 + (v2 % 64) * 64 + v3 % 64
    if c ≥ 0x10000 && Utf8.valid c then (c, 4) else (Utf8.runeError, 1)
  else (Utf8.runeError, 1)
theorem get_nat (s : List UInt8) (j : Nat) : ((ByteArray.mk s.toArray).get! j).toNat = (s.getD j 0).toNat := by
  simp only [ByteArray.get!, List.getD_eq_getElem?_getD]
  by_cases h : j < s.length
  · simp [h]
  · simp [h]; rfl
theorem decode_n (s : List UInt8) (i : Nat) : Utf8.decode ⟨s.toArray⟩ i = dN (s.getD i 0).toNat (s.getD (i + 1) 0).toNat (s.getD (i + 2) 0).toNat (s.getD (i + 3) 0).toNat (decide (i + 1 < s.length)) (decide (i + 2 < s.length)) (decide (i + 3 < s.length)) := by
  have hsz : (ByteArray.mk s.toArray).size = s.length := by simp [ByteArray.size]
  unfold Utf8.decode dN
  simp only [get_nat, hsz, Nat.add_zero]
theorem valid_iff (c : Nat) : Utf8.valid (c : Int) = true ↔ (c < 55296 ∨ (57344 ≤ c ∧ c ≤ 1114111)) := by
  unfold Utf8.valid
  rw [Bool.or_eq_true, Bool.and_eq_true, Bool.and_eq_true, decide_eq_true_eq, decide_eq_true_eq, decide_eq_true_eq, decide_eq_true_eq]
  constructor
  · rintro (⟨h1, h2⟩ | ⟨h1, h2⟩)
    · left; omega
    · right; exact ⟨by omega, by omega⟩
  · rintro (h | ⟨h1, h2⟩)
    · left; exact ⟨by omega, by omega⟩
    · right; exact ⟨by omega, by omega⟩
/-- What the one tells as the other does. -/
def wOf (d : Nat × Nat) : Nat := if d.1 = 65533 ∧ d.2 < 2 then 0 else d.2
theorem wOf_bad : wOf (Utf8.runeError, 1) = 0 := by simp [wOf, Utf8.runeError]
theorem fin_wOf (c n least : Nat) (hn : 2 ≤ n) : finW n c least = wOf (if (decide (c ≥ least) && Utf8.valid (c : Int)) = true then (c, n) else (Utf8.runeError, 1)) := by
  have hv := valid_iff c
  by_cases h : c < least
  · have : ¬ (decide (c ≥ least) && Utf8.valid (c : Int)) = true := by simp; omega
    rw [if_neg this, wOf_bad, finW, if_pos h]
  · by_cases h2 : Utf8.valid (c : Int) = true
    · have : (decide (c ≥ least) && Utf8.valid (c : Int)) = true := by simp [h2]; omega
      rw [if_pos this, finW, if_neg h]
      have h2 := hv.1 h2
      have e1 : ¬ (55296 ≤ c ∧ c < 57344) := by omega
      have e2 : ¬ (1114111 < c) := by omega
      rw [if_neg e1, if_neg e2, wOf, if_neg (by simp; omega)]
    · have : ¬ (decide (c ≥ least) && Utf8.valid (c : Int)) = true := by simp [h2]
      rw [if_neg this, wOf_bad, finW, if_neg h]
      have h2 : ¬ (c < 55296 ∨ (57344 ≤ c ∧ c ≤ 1114111)) := fun h => h2 (hv.2 h)
      by_cases e1 : 55296 ≤ c ∧ c < 57344
      · rw [if_pos e1]
      · have e2 : 1114111 < c := by omega
        rw [if_neg e1, if_pos e2]
theorem fin_wOf2 (c : Nat) (h : c < 2048) : finW 2 c 128 = wOf (if c ≥ 0x80 then (c, 2) else (Utf8.runeError, 1)) := by
  by_cases h1 : c < 128
  · rw [if_neg (by omega), wOf_bad, finW, if_pos h1]
  · have e1 : ¬ (55296 ≤ c ∧ c < 57344) := by omega
    have e2 : ¬ (1114111 < c) := by omega
    rw [if_pos (by omega), finW, if_neg h1, if_neg e1, if_neg e2, wOf, if_neg (by simp)]
theorem w_d (v0 v1 v2 v3 : Nat) (p1 p2 p3 : Bool) (h0 : v0 < 256) (h1 : v1 < 256) (h2 : v2 < 256) (h3 : v3 < 256) : wN v0 v1 v2 v3 p1 p2 p3 = wOf (dN v0 v1 v2 v3 p1 p2 p3) := by
  unfold wN dN
  by_cases c0 : v0 < 128
  · rw [if_pos c0, if_pos c0, wOf, if_neg (by simp; omega)]
  rw [if_neg c0, if_neg c0]
  have cont : ∀ (p : Bool) (v : Nat), (p && v / 64 == 2) = decide (p = true ∧ v / 64 = 2) := fun p v => by
    rw [Bool.eq_iff_iff]; simp
  simp only [cont]
  by_cases c1 : 192 ≤ v0 ∧ v0 < 224
  · have q1 : (v0 / 32 == 6) = true := by rw [beq_iff_eq]; omega
    have q2 : (v0 / 16 == 14) = false := by rw [beq_eq_false_iff_ne]; omega
    have q3 : (v0 / 8 == 30) = false := by rw [beq_eq_false_iff_ne]; omega
    have e : (v0 % 32) * 64 + v1 % 64 = 64 * (v0 - 192) + v1 % 64 := by omega
    rw [if_pos c1, q1, q2, q3, e]
    by_cases g1 : p1 = true ∧ v1 / 64 = 2
    · rw [if_pos g1, decide_eq_true g1, Bool.true_and, if_pos rfl]
      exact fin_wOf2 _ (by omega)
    · rw [if_neg g1, decide_eq_false g1, Bool.true_and, if_neg Bool.false_ne_true]
      simp only [Bool.false_and, Bool.false_eq_true, if_false]
      exact wOf_bad.symm
  have q1 : (v0 / 32 == 6) = false := by rw [beq_eq_false_iff_ne]; omega
  rw [if_neg c1, q1, Bool.false_and, if_neg Bool.false_ne_true]
  by_cases c2 : 224 ≤ v0 ∧ v0 < 240
  · have q2 : (v0 / 16 == 14) = true := by rw [beq_iff_eq]; omega
    have q3 : (v0 / 8 == 30) = false := by rw [beq_eq_false_iff_ne]; omega
    have e : (v0 % 16) * 4096 + (v1 % 64) * 64 + v2 % 64 = 64 * (64 * (v0 - 224) + v1 % 64) + v2 % 64 := by omega
    rw [if_pos c2, q2, q3, e]
    by_cases g1 : p1 = true ∧ v1 / 64 = 2
    · by_cases g2 : p2 = true ∧ v2 / 64 = 2
      · rw [if_pos g1, if_pos g2, decide_eq_true g1, decide_eq_true g2, Bool.true_and, Bool.true_and, if_pos rfl]
        exact fin_wOf _ 3 2048 (by omega)
      · rw [if_pos g1, if_neg g2, decide_eq_true g1, decide_eq_false g2, Bool.and_false, if_neg Bool.false_ne_true]
        simp only [Bool.false_and, Bool.false_eq_true, if_false]
        exact wOf_bad.symm
    · rw [if_neg g1, decide_eq_false g1, Bool.and_false, Bool.false_and, if_neg Bool.false_ne_true]
      simp only [Bool.false_and, Bool.false_eq_true, if_false]
      exact wOf_bad.symm
  have q2 : (v0 / 16 == 14) = false := by rw [beq_eq_false_iff_ne]; omega
  rw [if_neg c2, q2, Bool.false_and, Bool.false_and, if_neg Bool.false_ne_true]
  by_cases c3 : 240 ≤ v0 ∧ v0 < 248
  · have q3 : (v0 / 8 == 30) = true := by rw [beq_iff_eq]; omega
    have e : (v0 % 8) * 262144 + (v1 % 64) * 4096 + (v2 % 64) * 64 + v3 % 64 = 64 * (64 * (64 * (v0 - 240) + v1 % 64) + v2 % 64) + v3 % 64 := by omega
    rw [if_pos c3, q3, e]
    by_cases g1 : p1 = true ∧ v1 / 64 = 2
    · by_cases g2 : p2 = true ∧ v2 / 64 = 2
      · by_cases g3 : p3 = true ∧ v3 / 64 = 2
        · rw [if_pos g1, if_pos g2, if_pos g3, decide_eq_true g1, decide_eq_true g2, decide_eq_true g3, Bool.true_and, Bool.true_and, Bool.true_and, if_pos rfl]
          exact fin_wOf _ 4 65536 (by omega)
        · rw [if_pos g1, if_pos g2, if_neg g3, decide_eq_false g3, Bool.and_false, if_neg Bool.false_ne_true]
          exact wOf_bad.symm
      · rw [if_pos g1, if_neg g2, decide_eq_false g2, Bool.and_false, Bool.false_and, if_neg Bool.false_ne_true]
        exact wOf_bad.symm
    · rw [if_neg g1, decide_eq_false g1, Bool.and_false, Bool.false_and, Bool.false_and, if_neg Bool.false_ne_true]
      exact wOf_bad.symm
  · have q3 : (v0 / 8 == 30) = false := by rw [beq_eq_false_iff_ne]; omega
    rw [if_neg c3, q3, Bool.false_and, Bool.false_and, Bool.false_and, if_neg Bool.false_ne_true]
    exact wOf_bad.symm
theorem width_decode (s : List UInt8) (i : Nat) (h : i < s.length) : widthR s i = if (Utf8.decode ⟨s.toArray⟩ i).1 = 65533 ∧ (Utf8.decode ⟨s.toArray⟩ i).2 < 2 then 0 else ((Utf8.decode ⟨s.toArray⟩ i).2 : Int) := by
  have hlt : ∀ k, (s.getD k 0).toNat < 256 := fun k => (s.getD k 0).toNat_lt
  rw [width_n s i h, w_d _ _ _ _ _ _ _ (hlt _) (hlt _) (hlt _) (hlt _), ← decode_n, wOf]
  split <;> rfl
theorem runes_eq (s : List UInt8) : ∀ (f pos : Nat) (n : Int), s.length ≤ pos + f → 0 ≤ n → runesR s (f + 1) pos n = match runesN ⟨s.toArray⟩ f pos with | none => -1 | some k => n + k
  | f, pos, n, h, hn => by
    have hsz : (ByteArray.mk s.toArray).size = s.length := by simp [ByteArray.size]
    by_cases hp : pos < s.length
    · have hp' : (pos : Int) < s.length := by omega
      have hps : pos < (ByteArray.mk s.toArray).size := by rw [hsz]; exact hp
      have hwd := width_decode s pos hp
      cases f with
      | zero => omega
      | succ f =>
        by_cases hb : (Utf8.decode ⟨s.toArray⟩ pos).1 = 65533 ∧ (Utf8.decode ⟨s.toArray⟩ pos).2 < 2
        · rw [if_pos hb] at hwd
          rw [runesR, if_pos hp', if_pos hwd, runesN, if_pos hps, if_pos hb]
        · rw [if_neg hb] at hwd
          have hw := width_pos ⟨s.toArray⟩ pos
          have hne : ¬ widthR s pos = 0 := by rw [hwd]; omega
          have := runes_eq s f (pos + (Utf8.decode ⟨s.toArray⟩ pos).2) (n + 1) (by omega) (by omega)
          rw [runesR, if_pos hp', if_neg hne, hwd, runesN, if_pos hps, if_neg hb]
          rw [show (pos : Int) + ((Utf8.decode ⟨s.toArray⟩ pos).2 : Int) = ((pos + (Utf8.decode ⟨s.toArray⟩ pos).2 : Nat) : Int) by omega, this]
          cases runesN ⟨s.toArray⟩ f (pos + (Utf8.decode ⟨s.toArray⟩ pos).2) with
          | none => rfl
          | some k =>
            show n + 1 + (k : Int) = n + ((k + 1 : Nat) : Int)
            omega
    · have hp' : ¬ (pos : Int) < s.length := by omega
      rw [runesR, if_neg hp', runesN_end (⟨s.toArray⟩ : ByteArray) (by rw [hsz]; exact hp)]
      simp
theorem runes_same (s : List UInt8) : runesR s (s.length + 1) 0 0 = runesL s := by
  have := runes_eq s s.length 0 0 (by omega) (by omega)
  simp only [Int.natCast_zero] at this
  rw [this, runesL]
  cases runesN ⟨s.toArray⟩ s.length 0 with
  | none => rfl
  | some k => simp [runesI]
theorem valR_eq (v : Val) : valR v = decide (checkV v = 0) := by
  unfold valR checkV
  rw [runes_same]
  by_cases h1 : v.k = 1
  · by_cases h2 : v.s = [] <;> simp [h1, h2]
  · by_cases h3 : v.k = 2
    · by_cases h4 : v.n = 0
      · by_cases h5 : v.s.length ≤ 40
        · by_cases h6 : 0 ≤ runesL v.s <;> simp [h3, h4, h5, h6]
        · simp [h3, h4, h5]
      · simp [h3, h4]
    · simp [h1, h3]
end Go.Proofs.YtedniogmjhhhmaaDoor
