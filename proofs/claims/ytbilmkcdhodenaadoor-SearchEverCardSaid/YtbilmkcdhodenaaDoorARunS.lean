/-
  Chapter 02 (span): value.Runes, told to EV.
-/
import Derived.Test.YtbilmkcdhodenaaDoorEvN
import Derived.Test.YtbilmkcdhodenaaDoorARun2
set_option linter.all false
set_option linter.unusedSimpArgs false
set_option linter.unusedVariables false
namespace Go.Proofs.YtbilmkcdhodenaaDoor
open Go Go.Ev

/-- What is known of the world in which all begins: the library's two tables. -/
def Kw (w : World) : Prop := Lib.Utf8Tabs 1 2 w ∧ 3 ≤ w.heap.size
theorem tabs_of {w0 w : World} (h : Lib.Utf8Tabs 1 2 w0) (k0 : w.heap[1]? = w0.heap[1]?) (k1 : w.heap[2]? = w0.heap[2]?) : Lib.Utf8Tabs 1 2 w := by
  refine ⟨fun c hc => ?_, fun i hi => ⟨?_, ?_⟩⟩
  · have := h.1 c hc
    simp only [World.cell?, k0] at this ⊢; exact this
  · have := (h.2 i hi).1
    simp only [World.cell?, k1] at this ⊢; exact this
  · have := (h.2 i hi).2
    simp only [World.cell?, k1] at this ⊢; exact this

theorem based_tabs {w : World} {A : Nat → Prop} {bl : Bl} {H : Hp} (hcx : CtxOk Tryd.prog Kw bl.cx) (hH : RepH w A bl H) : Kw w := by
  obtain ⟨w0, h1, h2⟩ := hH.base
  obtain ⟨h3, h4⟩ := hcx.base w0 h1
  have hlt := hH.alt 2 (h2 2 (by omega)).1
  exact ⟨tabs_of h3 (h2 1 (by omega)).2 (h2 2 (by omega)).2, by omega⟩

theorem sound196 {args vals : List V} {H H' : Hp} (h : x196 args H = some (vals, H')) : Enter Tryd.prog 196 ∧ Sound Tryd.prog Kw 196 args H vals H' := by
  unfold x196 at h
  split at h
  case h_2 => simp at h
  rename_i s
  split at h <;> simp only [Option.some.injEq, Prod.mk.injEq, reduceCtorEq] at h
  rename_i hs
  obtain ⟨rfl, rfl⟩ := h
  refine ⟨fun args w => ?_, fun w A bl us hcx hH hargs => ?_⟩
  · simp only [callFunc, Sem.run_bind, run_program, Result.andThen_ok, Tryd.func196]
    rfl
  · obtain ⟨hl, hr⟩ := hargs
    match us, hl, hr with
    | [u], _, hr =>
      have hu := (hr 0 _ u rfl rfl).str_inv
      subst hu
      obtain ⟨hT, h2⟩ := based_tabs hcx hH
      have hsz : (⟨s.toArray⟩ : ByteArray).size = s.length := by simp [ByteArray.size]
      have hw := runes_walk ⟨s.toArray⟩ w h2 (by rw [hsz]; omega) hT _ rfl
      refine hw.mono ?_
      rintro e w' ⟨rfl, hb⟩
      have g : Grow w w' := ⟨hb.os, hb.tape, hb.output, hb.size, fun b hb' => hb.block b hb'⟩
      obtain ⟨q1, q2⟩ := grow hH g (N := fun _ => False) (fun b hb => hb.elim)
      refine ⟨_, bl, [_], rfl, ⟨rfl, fun j x u hj hu => ?_⟩, q1, q2, g.evo (fun b hb => .inl hb) (fun b hb => hb.elim .inl False.elim)⟩
      cases j with
      | zero =>
        simp at hj hu
        subst hj; subst hu
        rw [hsz]
        exact .int _ _
      | succ j => simp at hj
end Go.Proofs.YtbilmkcdhodenaaDoor
