/-
  EV, part Y: a function that hands back own rows at an age that does not hang on its way through: its ages are told anew on the way in and out.
-/
import Derived.Test.YtbilmkcdhodenaaDoorEvN
set_option linter.all false
set_option linter.unusedSimpArgs false
set_option linter.unusedVariables false
namespace Go.Ev

def ageR (α : Nat → Nat) (H : Hp) (i ep : Nat) : Option Nat := match H[i]? with
  | some (.mem _ e _) => if e = ep then some (α i) else none
  | _ => some ep
mutual
def V.re (α : Nat → Nat) (H : Hp) : V → V
  | .buf i ep off len => match ageR α H i ep with | some e => .buf i e off len | none => .junk
  | .ptr i ep el o => match ageR α H i ep with | some e => .ptr i e el o | none => .junk
  | .fn f caps => .fn f (reL α H caps)
  | .yl i => .yl i
  | .agg xs => .agg (reL α H xs)
  | .tup xs => .tup (reL α H xs)
  | .junk => .junk | .undef => .undef | .c x => .c x | .fp cs => .fp cs
def reL (α : Nat → Nat) (H : Hp) : List V → List V
  | [] => []
  | v :: r => v.re α H :: reL α H r
end
def O.re (α : Nat → Nat) (H : Hp) (i : Nat) : O → O
  | .box cs => .box (reL α H cs)
  | .mem z _ xs => .mem z (α i) xs
  | .yo r s => .yo r s
  | .gone => .gone
def reK (α : Nat → Nat) (H : Hp) : Nat → Hp → Hp
  | _, [] => []
  | k, o :: r => o.re α H k :: reK α H (k + 1) r
def agesOf (H : Hp) (i : Nat) : Nat := match H[i]? with
  | some (.mem _ e _) => e
  | _ => 0
def bumpA (H : Hp) (i : Nat) : Nat := if i < H.length then agesOf H i + 1 else 0
/-- f, for rows of any age: those that it was handed are a step older behind it; new ones are young. -/
def xbump (f : List V → Hp → Option (List V × Hp)) : List V → Hp → Option (List V × Hp) := fun args H =>
  match f (reL (fun _ => 0) H args) (reK (fun _ => 0) H 0 H) with
  | some (vals, H1) => some (reL (bumpA H) H1 vals, reK (bumpA H) H1 0 H1)
  | none => none

section
variable {w w' : World} {A A' : Nat → Prop} {bl bl' : Bl} {H H' : Hp} {α : Nat → Nat}
theorem reL_map : ∀ {l : List V}, reL α H l = l.map (V.re α H)
  | [] => rfl
  | v :: r => by simp [reL, reL_map (l := r)]
theorem reL_get {l : List V} {j : Nat} {x : V} (h : (reL α H l)[j]? = some x) : ∃ y, l[j]? = some y ∧ x = y.re α H := by
  rw [reL_map, List.getElem?_map, Option.map_eq_some_iff] at h
  obtain ⟨y, h1, h2⟩ := h
  exact ⟨y, h1, h2.symm⟩
theorem reK_at : ∀ {l : Hp} {k i : Nat}, (reK α H k l)[i]? = l[i]?.map (O.re α H (k + i))
  | [], k, i => by simp [reK]
  | o :: r, k, 0 => by simp [reK]
  | o :: r, k, i + 1 => by
    simp only [reK, List.getElem?_cons_succ]
    rw [reK_at, show k + 1 + i = k + (i + 1) by omega]
theorem reK_len : ∀ {l : Hp} {k : Nat}, (reK α H k l).length = l.length
  | [], k => rfl
  | o :: r, k => by simp [reK, reK_len]
theorem re_at {i : Nat} : (reK α H 0 H)[i]? = H[i]?.map (O.re α H i) := by
  rw [reK_at, Nat.zero_add]
theorem re_mem {i z e' : Nat} {xs : List (List C)} (h : (reK α H 0 H)[i]? = some (.mem z e' xs)) : ∃ e, H[i]? = some (.mem z e xs) ∧ e' = α i := by
  rw [re_at, Option.map_eq_some_iff] at h
  obtain ⟨o, h1, h2⟩ := h
  cases o <;> simp [O.re] at h2
  obtain ⟨rfl, h3, rfl⟩ := h2
  exact ⟨_, h1, h3.symm⟩
theorem re_box {i : Nat} {cs : List V} (h : (reK α H 0 H)[i]? = some (.box cs)) : ∃ cs0, H[i]? = some (.box cs0) ∧ cs = reL α H cs0 := by
  rw [re_at, Option.map_eq_some_iff] at h
  obtain ⟨o, h1, h2⟩ := h
  cases o <;> simp [O.re] at h2
  exact ⟨_, h1, h2.symm⟩
theorem re_yo {i : Nat} {r : List (List V)} {t : Bool} (h : (reK α H 0 H)[i]? = some (.yo r t)) : H[i]? = some (.yo r t) := by
  rw [re_at, Option.map_eq_some_iff] at h
  obtain ⟨o, h1, h2⟩ := h
  cases o <;> simp [O.re] at h2
  rw [h1]; simp [h2]
theorem re_alive {i : Nat} : alive (reK α H 0 H) i ↔ alive H i := by
  constructor
  · rintro ⟨o, h1, h2⟩
    rw [re_at, Option.map_eq_some_iff] at h1
    obtain ⟨o', h3, rfl⟩ := h1
    exact ⟨o', h3, by cases o' <;> first | rfl | simp [O.re, O.live] at h2⟩
  · rintro ⟨o, h1, h2⟩
    exact ⟨o.re α H i, by rw [re_at, h1]; rfl, by cases o <;> first | rfl | simp [O.live] at h2⟩
theorem re_liv {b : Nat} : Liv bl (reK α H 0 H) b ↔ Liv bl H b :=
  ⟨fun h => h.elim (fun ⟨i, d, h1, h2⟩ => .inl ⟨i, d, re_alive.1 h1, h2⟩) .inr, fun h => h.elim (fun ⟨i, d, h1, h2⟩ => .inl ⟨i, d, re_alive.2 h1, h2⟩) .inr⟩

theorem ageR_spec {i ep e' : Nat} (h : ageR α H i ep = some e') : (∃ z xs, H[i]? = some (.mem z ep xs)) ∧ e' = α i ∨ (∀ z e xs, H[i]? ≠ some (.mem z e xs)) := by
  unfold ageR at h
  split at h
  · split at h <;> simp only [Option.some.injEq, reduceCtorEq] at h
    rename_i z e xs hi he
    subst he
    exact .inl ⟨⟨_, _, hi⟩, h.symm⟩
  · rename_i hne
    exact .inr fun z e xs hi => hne z e xs hi

theorem RepV.re {v : V} {u : Value} (h : RepV w A bl H v u) : RepV w A bl (reK α H 0 H) (v.re α H) u := by
  induction h with
  | junk => exact .junk _
  | undef => exact .undef
  | c x v h => exact .c _ _ h
  | fp cs a h1 h2 => exact .fp _ _ h1 h2
  | buf i ep off len a l cap h1 h2 h3 =>
    simp only [V.re]
    cases hρ : ageR α H i ep with
    | none => exact .junk _
    | some e' =>
      have hs := ageR_spec hρ
      refine .buf _ _ _ _ _ _ _ (by rw [reK_len]; exact h1) (fun z e xs hj => ?_) (fun z xs hj => ?_)
      · obtain ⟨e0, k1, rfl⟩ := re_mem hj
        rcases hs with ⟨_, rfl⟩ | q2
        · exact Nat.le_refl _
        · exact absurd k1 (q2 _ _ _)
      · obtain ⟨e0, k1, k2⟩ := re_mem hj
        rcases hs with ⟨⟨z', xs', q2⟩, rfl⟩ | q2
        · rw [k1] at q2
          simp only [Option.some.injEq, O.mem.injEq] at q2
          obtain ⟨rfl, rfl, rfl⟩ := q2
          exact h3 _ _ k1
        · exact absurd k1 (q2 _ _ _)
  | ptr i ep el o a h1 h2 h3 h4 =>
    simp only [V.re]
    cases hρ : ageR α H i ep with
    | none => exact .junk _
    | some e' =>
      have hs := ageR_spec hρ
      refine .ptr _ _ _ _ _ (by rw [reK_len]; exact h1) (fun z e xs hj => ?_) (fun cs hj => ?_) (fun z xs hj => ?_)
      · obtain ⟨e0, k1, rfl⟩ := re_mem hj
        rcases hs with ⟨_, rfl⟩ | q2
        · exact Nat.le_refl _
        · exact absurd k1 (q2 _ _ _)
      · obtain ⟨cs0, k1, _⟩ := re_box hj
        exact h3 _ k1
      · obtain ⟨e0, k1, k2⟩ := re_mem hj
        rcases hs with ⟨⟨z', xs', q2⟩, rfl⟩ | q2
        · rw [k1] at q2
          simp only [Option.some.injEq, O.mem.injEq] at q2
          obtain ⟨rfl, rfl, rfl⟩ := q2
          exact h4 _ _ k1
        · exact absurd k1 (q2 _ _ _)
  | yl i b h1 h2 =>
    simp only [V.re]
    exact .yl _ _ (by rw [reK_len]; exact h1) fun r s h => h2 _ _ (re_yo h)
  | fn f caps vs h1 _ ih =>
    refine .fn _ _ _ (by rw [reL_map]; simpa using h1) fun j x u hj hu => ?_
    obtain ⟨y, k1, rfl⟩ := reL_get hj
    exact ih j y u k1 hu
  | agg xs vs h1 _ ih =>
    refine .agg _ _ (by rw [reL_map]; simpa using h1) fun j x u hj hu => ?_
    obtain ⟨y, k1, rfl⟩ := reL_get hj
    exact ih j y u k1 hu
  | tup xs vs h1 _ ih =>
    refine .tup _ _ (by rw [reL_map]; simpa using h1) fun j x u hj hu => ?_
    obtain ⟨y, k1, rfl⟩ := reL_get hj
    exact ih j y u k1 hu
theorem RepL.re {l : List V} {us : List Value} (h : RepL w A bl H l us) : RepL w A bl (reK α H 0 H) (reL α H l) us := by
  refine ⟨by rw [reL_map]; simpa using h.1, fun j x u hj hu => ?_⟩
  obtain ⟨y, k1, rfl⟩ := reL_get hj
  exact (h.2 j y u k1 hu).re

theorem re_rep (hH : RepH w A bl H) : RepH w A bl (reK α H 0 H) := by
  refine ⟨fun i o hi => ?_, fun i j b d d' hij hi hj => hH.inj i j b d d' hij (re_alive.1 hi) (re_alive.1 hj), fun i b d hi => hH.lt i b d (re_alive.1 hi), hH.alt, hH.xlt, fun i b d hi => hH.xinj i b d (re_alive.1 hi), hH.base⟩
  rw [re_at, Option.map_eq_some_iff] at hi
  obtain ⟨o', h1, rfl⟩ := hi
  have := hH.obj i o' h1
  cases o' with
  | gone => trivial
  | yo r s => exact this
  | box cs =>
    obtain ⟨b, arr, t, h1, h2, h3, h4⟩ := this
    refine ⟨b, arr, t, h1, h2, by rw [reL_map]; simpa using h3, fun j x u hj hu => ?_⟩
    obtain ⟨y, k1, rfl⟩ := reL_get hj
    exact (h4 j y u k1 hu).re
  | mem z e xs => exact this

theorem bump_le {β : Nat → Nat} {H1 : Hp} (hl : Le w A bl (reK α H 0 H) w' A' bl' H1) (hβ : ∀ i z e xs, H[i]? = some (.mem z e xs) → β i = e + 1) : Le w A bl H w' A' bl' (reK β H1 0 H1) := by
  have hlen := hl.len
  rw [reK_len] at hlen
  refine ⟨hl.C, hl.A, by rw [reK_len]; exact hlen, fun i z e' xs' hi h => ?_, fun i cs' hi h => ?_, fun i r s hi h => ?_, hl.cx, fun i z e xs xs' b d n h1 h2 hb hr => ?_⟩
  · obtain ⟨e0, k1, rfl⟩ := re_mem h
    obtain ⟨e1, xs1, g1, _⟩ := hl.mem i z e0 xs' (by rw [reK_len]; exact hi) k1
    obtain ⟨e2, g3, _⟩ := re_mem g1
    have := hβ i _ _ _ g3
    exact ⟨e2, xs1, g3, by omega, fun h => by omega⟩
  · obtain ⟨cs0, k1, _⟩ := re_box h
    obtain ⟨cs1, g1, g2⟩ := hl.box i cs0 (by rw [reK_len]; exact hi) k1
    obtain ⟨cs2, g3, _⟩ := re_box g1
    exact ⟨cs2, g3, g2⟩
  · obtain ⟨r1, s1, g1, g2⟩ := hl.yo i r s (by rw [reK_len]; exact hi) (re_yo h)
    exact ⟨r1, s1, re_yo g1, g2⟩
  · obtain ⟨e0, k1, k2⟩ := re_mem h2
    have := hβ i _ _ _ h1
    omega
end

theorem xbump_sound {P : Program} {K : World → Prop} {g : FuncId} {f : List V → Hp → Option (List V × Hp)} (hf : ∀ args H vals H', f args H = some (vals, H') → Enter P g ∧ Sound P K g args H vals H')
    {args vals : List V} {H H' : Hp} (h : xbump f args H = some (vals, H')) : Enter P g ∧ Sound P K g args H vals H' := by
  unfold xbump at h
  split at h <;> simp only [Option.some.injEq, Prod.mk.injEq, reduceCtorEq] at h
  rename_i vals1 H1 h1
  obtain ⟨rfl, rfl⟩ := h
  obtain ⟨h2, h3⟩ := hf _ _ _ _ h1
  refine ⟨h2, fun w A bl us hcx hH ha => ?_⟩
  refine Calls.mono (h3 w A bl us hcx (re_rep hH) ha.re) ?_
  rintro e w' ⟨A', bl', rs, rfl, q1, q2, q3, q4⟩
  refine ⟨A', bl', rs, rfl, q1.re, re_rep q2, bump_le q3 fun i z e xs hi => ?_, ?_⟩
  · have hlt : i < H.length := (List.getElem?_eq_some_iff.1 hi).1
    simp only [bumpA, if_pos hlt, agesOf, hi]
  · exact ⟨q4.os, q4.tape, q4.output, q4.size, fun b hb hL => q4.keep b hb fun h => hL (re_liv.1 h), fun b hb => (q4.live b (re_liv.1 hb)).imp re_liv.1 id, fun b hb => (q4.from_ b hb).imp id (Or.imp re_liv.1 id)⟩
/-- f, tried for nil and for no nil where its first argument is empty. -/
def xsplit (f : List V → Hp → Option (List V × Hp)) : List V → Hp → Option (List V × Hp) := fun args H =>
  match nilArg true args with
  | some (a, b) => both (f a H) (f b H)
  | none => f args H
theorem xsplit_sound {P : Program} {K : World → Prop} {g : FuncId} {f : List V → Hp → Option (List V × Hp)} (hf : ∀ args H vals H', f args H = some (vals, H') → Enter P g ∧ Sound P K g args H vals H')
    {args vals : List V} {H H' : Hp} (h : xsplit f args H = some (vals, H')) : Enter P g ∧ Sound P K g args H vals H' := by
  unfold xsplit at h
  split at h
  · rename_i a b hn
    unfold both at h
    split at h
    case isFalse => cases h
    rename_i hs
    have hb := sameR_eq hs
    rw [h] at hb
    obtain ⟨g1, g2⟩ := hf _ _ _ _ h
    obtain ⟨_, g3⟩ := hf _ _ _ _ hb.symm
    refine ⟨g1, fun w A bl us hcx hH ha => ?_⟩
    rcases nilArg_rep hn ha with k | k
    · exact g2 w A bl us hcx hH k
    · exact g3 w A bl us hcx hH k
  · exact hf _ _ _ _ h
end Go.Ev
