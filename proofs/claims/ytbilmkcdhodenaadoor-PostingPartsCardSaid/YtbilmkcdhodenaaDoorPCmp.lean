/-
  Chapter 13 (posting): strings.Compare, told to EV; posting.order, as slices.SortFunc asks it.
-/
import Derived.Test.YtbilmkcdhodenaaDoorPM1
import Derived.Test.YtbilmkcdhodenaaDoorPX
import Derived.Test.YtbilmkcdhodenaaDoorARunS
import Derived.Shelf.Small.Strs
import Derived.Shelf.Small.Wraps
import Derived.Shelf.SlSortCmp.InsertionK
set_option linter.all false
set_option linter.unusedSimpArgs false
set_option linter.unusedVariables false
namespace Go.Proofs.YtbilmkcdhodenaaDoor
open Go Go.Ev Go.Sort

theorem compareBytes_eq : ∀ a b : List UInt8, Lib.compareBytes a b = cmpB a b
  | [], [] => rfl
  | [], _ :: _ => rfl
  | _ :: _, [] => rfl
  | a :: x, b :: y => by
    rw [Lib.compareBytes, compareBytes_eq x y]
    simp only [cmpB, Op.bytesLess, Bool.or_eq_true, decide_eq_true_eq, Bool.and_eq_true, beq_iff_eq]
    by_cases h1 : a < b
    · simp [h1]
    · by_cases h2 : b < a
      · have h3 : a ≠ b := fun e => by subst e; exact h1 h2
        simp [h1, h2, h3]
      · have e : a = b := by
          rw [UInt8.lt_iff_toNat_lt] at h1 h2
          exact UInt8.toNat_inj.1 (by omega)
        subst e
        simp [h1]
theorem compare_walk (s t : List UInt8) (w : World) : Calls Tryd.prog 126 #[.string ⟨s.toArray⟩, .string ⟨t.toArray⟩] w fun e w' => e = .returned (.int .i64 (cmpB s t)) ∧ w' = w := by
  have h := Any.strings_Compare Tryd.lays106 ⟨s.toArray⟩ ⟨t.toArray⟩ w
  rw [show (ByteArray.mk s.toArray).data.toList = s from rfl, show (ByteArray.mk t.toArray).data.toList = t from rfl, compareBytes_eq] at h
  exact h
theorem sound126 {args vals : List V} {H H' : Hp} (h : x126 args H = some (vals, H')) : Enter Tryd.prog 126 ∧ Sound Tryd.prog Kw 126 args H vals H' := by
  unfold x126 at h
  split at h
  case h_2 => simp at h
  rename_i s t
  simp only [Option.some.injEq, Prod.mk.injEq] at h
  obtain ⟨rfl, rfl⟩ := h
  refine ⟨fun args w => ?_, fun w A bl us hcx hH hargs => ?_⟩
  · simp only [callFunc, Sem.run_bind, run_program, Result.andThen_ok, Tryd.func126]
    rfl
  · obtain ⟨hl, hr⟩ := hargs
    match us, hl, hr with
    | [u, v], _, hr =>
      have hu := (hr 0 _ u rfl rfl).str_inv
      have hv := (hr 1 _ v rfl rfl).str_inv
      subst hu; subst hv
      refine (compare_walk s t w).mono ?_
      rintro e w' ⟨rfl, rfl⟩
      have g : Grow w' w' := ⟨rfl, rfl, rfl, Nat.le_refl _, fun b hb' => rfl⟩
      obtain ⟨q1, q2⟩ := grow hH g (N := fun _ => False) (fun b hb => hb.elim)
      refine ⟨_, bl, [_], rfl, ⟨rfl, fun j x u hj hu => ?_⟩, q1, q2, g.evo (fun b hb => .inl hb) (fun b hb => hb.elim .inl False.elim)⟩
      cases j with
      | zero =>
        simp at hj hu
        subst hj; subst hu
        exact .int _ _
      | succ j => simp at hj
/-- A posting's cells in memory. -/
def encO (x : Pst) : List Value := [.string ⟨x.p.toArray⟩, .int .i64 x.c, .int .i64 x.k]
theorem compareInt_eq (a b : Int) : Lib.compareInt a b = cmpI a b := rfl
set_option maxHeartbeats 2000000 in
/-- posting.order, in whatever world. -/
theorem order_walk (x y : Pst) (W : World) : Calls Tryd.prog 81 #[.agg #[.string ⟨x.p.toArray⟩, .int .i64 x.c, .int .i64 x.k], .agg #[.string ⟨y.p.toArray⟩, .int .i64 y.c, .int .i64 y.k]] W fun e w' => e = .returned (.int .i64 (orderP x y)) ∧ ∃ q os', w' = grow (W.drewN q) os' := by
  have h1 := fun W' => compare_walk x.p y.p W'
  have h2 := fun W' => Any.cmp_Compare_int Tryd.lays122 x.c y.c W'
  change ∀ W', Calls Tryd.prog 127 _ _ _ at h2
  obtain ⟨s, hs⟩ : ∃ s, s = cmpB x.p y.p := ⟨_, rfl⟩
  obtain ⟨r, hr⟩ : ∃ r, r = Lib.compareInt x.c y.c := ⟨_, rfl⟩
  obtain ⟨R, hR⟩ : ∃ R, R = orderP x y := ⟨_, rfl⟩
  have e1 : s ≠ 0 → R = s := fun h => by rw [hR, orderP, ← hs, if_pos h]
  have e2 : s = 0 → R = r := fun h => by rw [hR, orderP, ← hs, if_neg (by simpa using h), hr]; rfl
  rw [← hR]
  simp only [← hr] at h2
  simp only [← hs] at h1
  clear hs hr hR
  go_enter Tryd.func81, Tryd.ntmps81
  go_wp2_with (first | (go_at_call 126; refine (h1 _).mono ?_; rintro e w' ⟨rfl, rfl⟩) | (go_at_call 127; refine (h2 _).mono ?_; rintro e w' ⟨rfl, rfl⟩))
  · rename_i h
    have h3 : s ≠ 0 := by simpa using h
    rw [e1 h3]
    go_ret
    exact ⟨rfl, 0, _, by rw [alloc_eq_grow, alloc_eq_grow, grow_grow]; rfl⟩
  · rename_i h
    have h3 : s = 0 := by simpa using h
    rw [e2 h3]
    go_ret
    exact ⟨rfl, 0, _, by rw [alloc_eq_grow, alloc_eq_grow, grow_grow]; rfl⟩
end Go.Proofs.YtbilmkcdhodenaaDoor
