/-
  EV, part G: objects under other numbers; rows that are only read from now on.
-/
import Derived.Test.YtbilmkcdhodenaaDoorEvF
set_option linter.all false
set_option linter.unusedSimpArgs false
set_option linter.unusedVariables false
namespace Go.Ev
section
variable {P : Program} {w w' : World} {A A' : Nat → Prop} {bl bl' : Bl} {H H' : Hp} {fr : Fr} {a : Act} {ρ : Nat → Option Nat}

theorem renL_map : ∀ {l : List V}, renL ρ l = l.map (V.ren ρ)
  | [] => rfl
  | v :: r => by simp [renL, renL_map (l := r)]
theorem renL_get {l : List V} {j : Nat} {x : V} (h : (renL ρ l)[j]? = some x) : ∃ y, l[j]? = some y ∧ x = y.ren ρ := by
  rw [renL_map, List.getElem?_map, Option.map_eq_some_iff] at h
  obtain ⟨y, h1, h2⟩ := h
  exact ⟨y, h1, h2.symm⟩
theorem renH_map : ∀ {l : Hp}, renH ρ l = l.map (O.ren ρ)
  | [] => rfl
  | v :: r => by simp [renH, renH_map (l := r)]

/-- Under other numbers: what the objects are, where they lie. -/
structure RenOk (ρ : Nat → Option Nat) (bl : Bl) (H : Hp) (bl' : Bl) (H' : Hp) : Prop where
  at_ : ∀ i j, ρ i = some j → i < H.length → j < H'.length ∧ bl' j = bl i ∧ ∀ o', H'[j]? = some o' → ∃ o, H[i]? = some o ∧ o' = o.ren ρ

theorem O.ren_mem {o : O} {z e : Nat} {xs : List (List C)} (h : O.mem z e xs = o.ren ρ) : o = .mem z e xs := by
  cases o <;> simp [O.ren] at h; simp [h]
theorem O.ren_box {o : O} {cs : List V} (h : O.box cs = o.ren ρ) : ∃ cs0, o = .box cs0 ∧ cs = renL ρ cs0 := by
  cases o <;> simp [O.ren] at h
  exact ⟨_, rfl, h⟩

theorem O.ren_yo {o : O} {r : List (List V)} {t : Bool} (h : O.yo r t = o.ren ρ) : o = .yo r t := by
  cases o <;> simp [O.ren] at h; simp [h]

theorem RepV.ren (hr : RenOk ρ bl H bl' H') {v : V} {u : Value} (h : RepV w A bl H v u) : RepV w A bl' H' (v.ren ρ) u := by
  induction h with
  | junk => exact .junk _
  | undef => exact .undef
  | c x v h => exact .c _ _ h
  | fp cs a h1 h2 => exact .fp _ _ h1 h2
  | buf i ep off len a l cap h1 h2 h3 =>
    simp only [V.ren]
    cases hρ : ρ i with
    | none => exact .junk _
    | some j =>
      obtain ⟨g1, g2, g3⟩ := hr.at_ i j hρ h1
      refine .buf _ _ _ _ _ _ _ g1 (fun z e xs hj => ?_) (fun z xs hj => ?_)
      · obtain ⟨o, k1, k2⟩ := g3 _ hj
        rw [O.ren_mem k2] at k1
        exact h2 _ _ _ k1
      · obtain ⟨o, k1, k2⟩ := g3 _ hj
        rw [O.ren_mem k2] at k1
        obtain ⟨q1, q2, q3, q4⟩ := h3 _ _ k1
        exact ⟨q1, q2, q3, fun hc => by rw [g2]; exact q4 hc⟩
  | ptr i ep el o a h1 h2 h3 h4 =>
    simp only [V.ren]
    cases hρ : ρ i with
    | none => exact .junk _
    | some j =>
      obtain ⟨g1, g2, g3⟩ := hr.at_ i j hρ h1
      refine .ptr _ _ _ _ _ g1 (fun z e xs hj => ?_) (fun cs hj => ?_) (fun z xs hj => ?_)
      · obtain ⟨o, k1, k2⟩ := g3 _ hj
        rw [O.ren_mem k2] at k1
        exact h2 _ _ _ k1
      · obtain ⟨o, k1, k2⟩ := g3 _ hj
        obtain ⟨cs0, rfl, _⟩ := O.ren_box k2
        rw [g2]; exact h3 _ k1
      · obtain ⟨o, k1, k2⟩ := g3 _ hj
        rw [O.ren_mem k2] at k1
        rw [g2]; exact h4 _ _ k1
  | yl i b h1 h2 =>
    simp only [V.ren]
    cases hρ : ρ i with
    | none => exact .junk _
    | some j =>
      obtain ⟨g1, g2, g3⟩ := hr.at_ i j hρ h1
      refine .yl _ _ g1 fun r s hj => ?_
      obtain ⟨o, k1, k2⟩ := g3 _ hj
      rw [O.ren_yo k2] at k1
      rw [g2]; exact h2 _ _ k1
  | fn f caps vs h1 _ ih =>
    refine .fn _ _ _ (by rw [renL_map]; simpa using h1) fun j x u hj hu => ?_
    obtain ⟨y, k1, rfl⟩ := renL_get hj
    exact ih j y u k1 hu
  | agg xs vs h1 _ ih =>
    refine .agg _ _ (by rw [renL_map]; simpa using h1) fun j x u hj hu => ?_
    obtain ⟨y, k1, rfl⟩ := renL_get hj
    exact ih j y u k1 hu
  | tup xs vs h1 _ ih =>
    refine .tup _ _ (by rw [renL_map]; simpa using h1) fun j x u hj hu => ?_
    obtain ⟨y, k1, rfl⟩ := renL_get hj
    exact ih j y u k1 hu

theorem RepO.ren (hr : RenOk ρ bl H bl' H') (hX : bl'.X = bl.X) (hc : bl'.cx = bl.cx) {i j : Nat} (hb : bl' j = bl i) {o : O} (h : RepO w A bl H i o) : RepO w A bl' H' j (o.ren ρ) := by
  cases o with
  | gone => trivial
  | yo r s =>
    obtain ⟨b, h1, h2⟩ := h
    exact ⟨b, hb.trans h1, by rw [hX, hc]; exact h2⟩
  | box cs =>
    obtain ⟨b, arr, t, h1, h2, h3, h4⟩ := h
    refine ⟨b, arr, t, hb.trans h1, h2, by rw [renL_map]; simpa using h3, fun j x u hj hu => ?_⟩
    obtain ⟨y, k1, rfl⟩ := renL_get hj
    exact (h4 j y u k1 hu).ren hr
  | mem z e xs =>
    obtain ⟨h1, h2, h3⟩ := h
    exact ⟨h1, fun hn => h2 (hb ▸ hn), fun b d hb' => h3 b d (hb ▸ hb')⟩

/-! ## a part of a heap -/
theorem idx_some : ∀ {l : List Nat} {i k : Nat}, idx l i = some k → l[k]? = some i
  | [], i, k, h => by simp [idx] at h
  | j :: r, i, k, h => by
    unfold idx at h
    split at h
    · simp only [Option.some.injEq] at h; subst h; simp [*]
    · split at h <;> simp only [Option.some.injEq, reduceCtorEq] at h
      subst h
      simpa using idx_some ‹_›
theorem contains_iff {l : List Nat} {i : Nat} : l.contains i = true ↔ i ∈ l := by simp
theorem distinct_inj : ∀ {l : List Nat}, distinct l = true → ∀ {k k' i : Nat}, l[k]? = some i → l[k']? = some i → k = k'
  | [], _, k, k', i, h, _ => by simp at h
  | j :: r, hd, k, k', i, h, h' => by
    simp only [distinct, Bool.and_eq_true, Bool.not_eq_true'] at hd
    have hn : j ∉ r := by simpa using hd.1
    cases k with
    | zero =>
      cases k' with
      | zero => rfl
      | succ k' =>
        simp at h h'
        subst h
        exact absurd (List.mem_of_getElem? h') hn
    | succ k =>
      cases k' with
      | zero =>
        simp at h h'
        subst h'
        exact absurd (List.mem_of_getElem? h) hn
      | succ k' =>
        simp at h h'
        rw [distinct_inj hd.2 h h']
theorem take_at : ∀ {l : List Nat} {keep : List Nat} {h0 : Hp}, take keep H l = some h0 → h0.length = l.length ∧ ∀ (k i : Nat), l[k]? = some i → ∃ o, H[i]? = some o ∧ h0[k]? = some (o.ren (idx keep))
  | [], keep, h0, h => by
    simp only [take, Option.some.injEq] at h
    subst h
    exact ⟨rfl, fun k i hk => by simp at hk⟩
  | j :: r, keep, h0, h => by
    simp only [take] at h
    split at h <;> simp only [Option.some.injEq, reduceCtorEq] at h
    rename_i o l ho hl
    subst h
    obtain ⟨g1, g2⟩ := take_at hl
    refine ⟨by simp [g1], fun k i hk => ?_⟩
    cases k with
    | zero => simp at hk; subst hk; exact ⟨o, ho, rfl⟩
    | succ k => simp at hk; simpa using g2 k i hk

/-- Where a part of a heap lies. -/
def subBl (bl : Bl) (keep : List Nat) : Bl := { bl with loc := fun k => match keep[k]? with
  | some i => bl i
  | none => none }

theorem sub_ren {keep : List Nat} {h0 : Hp} (ht : take keep H keep = some h0) : RenOk (idx keep) bl H (subBl bl keep) h0 := by
  obtain ⟨g1, g2⟩ := take_at ht
  refine ⟨fun i j hij _ => ?_⟩
  have hj := idx_some hij
  obtain ⟨o, k1, k2⟩ := g2 j i hj
  refine ⟨by rw [g1]; exact (List.getElem?_eq_some_iff.1 hj).1, by simp [subBl, hj], fun o' ho' => ?_⟩
  rw [k2] at ho'
  simp only [Option.some.injEq] at ho'
  exact ⟨o, k1, ho'.symm⟩

theorem O.ren_live {o : O} : (o.ren ρ).live = o.live := by cases o <;> rfl

theorem sub_alive {keep : List Nat} {h0 : Hp} (ht : take keep H keep = some h0) {k : Nat} (h : alive h0 k) : ∃ i, keep[k]? = some i ∧ alive H i := by
  obtain ⟨g1, g2⟩ := take_at ht
  obtain ⟨o, h1, h2⟩ := h
  have hk : k < keep.length := by rw [← g1]; exact (List.getElem?_eq_some_iff.1 h1).1
  obtain ⟨o', k1, k2⟩ := g2 k keep[k] (by simp [hk])
  rw [k2] at h1
  simp only [Option.some.injEq] at h1
  subst h1
  exact ⟨keep[k], by simp [hk], o', k1, by rw [← h2, O.ren_live]⟩

/-- .. is a heap. -/
theorem sub_rep (hH : RepH w A bl H) {keep : List Nat} {h0 : Hp} (ht : take keep H keep = some h0) (hd : distinct keep = true) : RepH w A (subBl bl keep) h0 := by
  obtain ⟨g1, g2⟩ := take_at ht
  have hr := sub_ren (bl := bl) ht
  refine ⟨fun k o hk => ?_, fun k k' b d d' hne ha ha' hb hb' => ?_, fun k b d ha hb => ?_, hH.alt, hH.xlt, fun k b d ha hb => ?_, hH.base⟩
  · have hlt : k < keep.length := by rw [← g1]; exact (List.getElem?_eq_some_iff.1 hk).1
    obtain ⟨o', k1, k2⟩ := g2 k keep[k] (by simp [hlt])
    rw [k2] at hk
    simp only [Option.some.injEq] at hk
    subst hk
    exact (hH.obj _ _ k1).ren hr rfl rfl (by simp [subBl, hlt])
  · obtain ⟨i, k1, k2⟩ := sub_alive ht ha
    obtain ⟨i', k3, k4⟩ := sub_alive ht ha'
    simp only [subBl, k1, k3] at hb hb'
    refine hH.inj i i' b d d' (fun e => hne ?_) k2 k4 hb hb'
    subst e
    exact distinct_inj hd k1 k3
  · obtain ⟨i, k1, k2⟩ := sub_alive ht ha
    simp only [subBl, k1] at hb
    exact hH.lt i b d k2 hb
  · obtain ⟨i, k1, k2⟩ := sub_alive ht ha
    simp only [subBl, k1] at hb
    exact hH.xinj i b d k2 hb

theorem sub_liv {keep : List Nat} {h0 : Hp} (ht : take keep H keep = some h0) {b : Nat} (h : Liv (subBl bl keep) h0 b) : Liv bl H b := by
  rcases h with ⟨k, d, ha, hb⟩ | h
  · obtain ⟨i, k1, k2⟩ := sub_alive ht ha
    simp only [subBl, k1] at hb
    exact .inl ⟨i, d, k2, hb⟩
  · exact .inr h

/-- Nothing of somebody else's. -/
def Bl.noX (bl : Bl) : Bl := { bl with X := fun _ => False }
theorem noYo_at : ∀ {H : Hp}, noYo H = true → ∀ (i : Nat) (r : List (List V)) (s : Bool), H[i]? ≠ some (.yo r s)
  | [], _, i, r, s, h => by simp at h
  | o :: l, hn, i, r, s, h => by
    cases i with
    | zero => simp at h; subst h; simp [noYo] at hn
    | succ i =>
      simp at h
      have : noYo l = true := by cases o <;> simp_all [noYo]
      exact noYo_at this i r s h
theorem noX_le : Le w A bl H w A bl.noX H :=
  ⟨fun _ _ => rfl, fun _ h => h, Nat.le_refl _, fun _ _ _ _ _ h => ⟨_, _, h, Nat.le_refl _, fun _ => ⟨rfl, rfl⟩⟩, fun _ _ _ h => ⟨_, h, rfl⟩, fun _ _ _ _ h => ⟨_, _, h, rfl⟩, rfl, fun _ _ _ _ _ _ _ _ _ _ _ h => h⟩
theorem RepO.setX {X : Nat → Prop} {i : Nat} {o : O} (hn : ∀ r s, o ≠ .yo r s) (h : RepO w A bl H i o) : RepO w A { bl with X := X } H i o := by
  have hl : Le w A bl H w A { bl with X := X } H :=
    ⟨fun _ _ => rfl, fun _ h => h, Nat.le_refl _, fun _ _ _ _ _ h => ⟨_, _, h, Nat.le_refl _, fun _ => ⟨rfl, rfl⟩⟩, fun _ _ _ h => ⟨_, h, rfl⟩, fun _ _ _ _ h => ⟨_, _, h, rfl⟩, rfl, fun _ _ _ _ _ _ _ _ _ _ _ h => h⟩
  cases o with
  | gone => trivial
  | yo r s => exact absurd rfl (hn r s)
  | box cs =>
    obtain ⟨b, arr, t, h1, h2, h3, h4⟩ := h
    exact ⟨b, arr, t, h1, h2, h3, fun j x u hj hu => (h4 j x u hj hu).mono hl⟩
  | mem z e xs => exact h
theorem noX_rep (hH : RepH w A bl H) (hn : noYo H = true) : RepH w A bl.noX H :=
  ⟨fun i o hi => (hH.obj i o hi).setX fun r s e => noYo_at hn i r s (e ▸ hi), hH.inj, hH.lt, hH.alt, fun _ h => h.elim, fun _ _ _ _ _ h => h, hH.base⟩
theorem noX_liv {b : Nat} (h : Liv bl.noX H b) : Liv bl H b := h.elim .inl False.elim
theorem takeC_some {keep : List Nat} {h0 : Hp} (h : takeC keep H = some h0) : take keep H keep = some h0 ∧ noYo h0 = true := by
  unfold takeC at h
  split at h
  · split at h
    · simp only [Option.some.injEq] at h; subst h; exact ⟨‹_›, ‹_›⟩
    · simp at h
  · simp at h

/-! ## rows that are only read from now on -/
theorem frzL_map {p : Nat → Bool} : ∀ {l : List V}, frzL H p l = l.map (V.frz H p)
  | [] => rfl
  | v :: r => by simp [frzL, frzL_map (l := r)]
theorem frzL_get {p : Nat → Bool} {l : List V} {j : Nat} {x : V} (h : (frzL H p l)[j]? = some x) : ∃ y, l[j]? = some y ∧ x = y.frz H p := by
  rw [frzL_map, List.getElem?_map, Option.map_eq_some_iff] at h
  obtain ⟨y, h1, h2⟩ := h
  exact ⟨y, h1, h2.symm⟩
theorem frzK_at {p : Nat → Bool} : ∀ {l : Hp} {k i : Nat}, (frzK p H k l)[i]? = (l[i]?).map fun o => if p (k + i) then .gone else o.frz H p
  | [], k, i => by simp [frzK]
  | o :: r, k, i => by
    cases i with
    | zero => simp [frzK]
    | succ i =>
      simp only [frzK, List.getElem?_cons_succ, frzK_at (l := r) (k := k + 1)]
      rw [show k + 1 + i = k + (i + 1) by omega]
theorem frzH_at {p : Nat → Bool} {i : Nat} : (frzH p H)[i]? = (H[i]?).map fun o => if p i then .gone else o.frz H p := by
  unfold frzH; rw [frzK_at]; simp
theorem frzH_len {p : Nat → Bool} : (frzH p H).length = H.length := by
  have : ∀ (l : Hp) (k : Nat), (frzK p H k l).length = l.length := by
    intro l
    induction l with
    | nil => intro k; rfl
    | cons o r ih => intro k; simp [frzK, ih]
  exact this H 0
theorem O.frz_live {p : Nat → Bool} {o : O} : (o.frz H p).live = o.live := by cases o <;> rfl
theorem frz_alive {p : Nat → Bool} {i : Nat} (h : alive (frzH p H) i) : p i = false ∧ alive H i := by
  obtain ⟨o, h1, h2⟩ := h
  rw [frzH_at, Option.map_eq_some_iff] at h1
  obtain ⟨o', k1, k2⟩ := h1
  split at k2
  · subst k2; simp [O.live] at h2
  · subst k2
    rw [O.frz_live] at h2
    exact ⟨by simp_all, o', k1, h2⟩

/-- What may be read for good, then. -/
def frzA (A : Nat → Prop) (bl : Bl) (H : Hp) (p : Nat → Bool) (b : Nat) : Prop := A b ∨ ∃ i d, p i = true ∧ alive H i ∧ bl i = some (b, d)

theorem RepV.frz (hH : RepH w A bl H) {p : Nat → Bool} {v : V} {u : Value} (h : RepV w A bl H v u) : RepV w (frzA A bl H p) bl (frzH p H) (v.frz H p) u := by
  have hA : ∀ b, A b → frzA A bl H p b := fun b hb => .inl hb
  induction h with
  | junk => exact .junk _
  | undef => exact .undef
  | c x v h => exact .c _ _ (h.mono (fun _ _ => rfl) hA)
  | fp cs a h1 h2 =>
    refine .fp _ _ h1 fun j x hj => ?_
    obtain ⟨k1, u, k2, k3⟩ := h2 j x hj
    exact ⟨hA _ k1, u, k2, k3.mono (fun _ _ => rfl) hA⟩
  | buf i ep off len a l cap h1 h2 h3 =>
    simp only [V.frz]
    cases hp : p i with
    | true =>
      simp only [if_true]
      unfold frz1
      split
      · rename_i z e xs hmem
        split
        · rename_i he
          subst he
          obtain ⟨q1, rfl, ⟨q3, q5, q6⟩, q4⟩ := h3 _ _ hmem
          obtain ⟨r1, r2, r3⟩ := hH.obj _ _ hmem
          have hlen : ((xs.drop off).take l).length = l := by simp; omega
          cases a with
          | none =>
            have hc := q6 rfl
            subst hc
            have hl : l = 0 := by omega
            subst hl
            simp only [List.take_zero]
            exact .c _ _ (.slnil _ _ _ (by simp))
          | some a0 =>
            have := RepC.sl (w := w) (A := frzA A bl H p) z none false ((xs.drop off).take l) a0 cap (fun k j => (w.cell? ⟨a0.block, a0.off + k * z + j, none⟩).getD Go.undef) (fun h => q5 h _ rfl) (by simp) (by simp) (by omega)
              (fun cs hcs => r1 cs (List.mem_of_mem_drop (List.mem_of_mem_take hcs))) ?_ ?_
            · rw [hlen] at this; exact .c _ _ this
            all_goals
              intro k j cs x hk hj
              have hk' := (List.getElem?_eq_some_iff.1 hk).1
              have hcap : cap ≠ 0 := by omega
              obtain ⟨b, d, n, s1, s2, s3, s4⟩ := q4 hcap
              simp only [Option.some.injEq] at s2
              subst s2
              obtain ⟨arr, t, t1, t2, t3⟩ := r3 b d s1
              have hx : xs[off + k]? = some cs := by
                rw [List.getElem?_take, List.getElem?_drop] at hk
                split at hk <;> simp_all
              obtain ⟨u, u1, u2⟩ := t3 (off + k) j cs x hx hj
              have hcell : w.cell? ⟨b, d + off * z + k * z + j, none⟩ = some u := by
                rw [cell_of_heap t1, ← u1]; congr 1; rw [Nat.add_mul]; omega
            · exact ⟨.inr ⟨i, d, hp, ⟨_, hmem, rfl⟩, s1⟩, by rw [hcell]; rfl⟩
            · rw [hcell]; exact u2.mono (fun _ _ => rfl) hA
        · exact .junk _
      · exact .junk _
    | false =>
      simp only [Bool.false_eq_true, if_false]
      have at_ : ∀ {z e : Nat} {xs : List (List C)}, (frzH p H)[i]? = some (.mem z e xs) → H[i]? = some (.mem z e xs) := by
        intro z e xs h
        rw [frzH_at, Option.map_eq_some_iff] at h
        obtain ⟨o, k1, k2⟩ := h
        simp only [hp, Bool.false_eq_true, if_false] at k2
        cases o <;> simp [O.frz] at k2
        rw [k1]; simp [k2]
      exact .buf _ _ _ _ _ _ _ (by rw [frzH_len]; exact h1) (fun z e xs h => h2 _ _ _ (at_ h)) (fun z xs h => h3 _ _ (at_ h))
  | ptr i ep el o a h1 h2 h3 h4 =>
    simp only [V.frz]
    cases hp : p i with
    | true => simp only [if_true]; exact .junk _
    | false =>
      simp only [Bool.false_eq_true, if_false]
      have at_ : ∀ {z e : Nat} {xs : List (List C)}, (frzH p H)[i]? = some (.mem z e xs) → H[i]? = some (.mem z e xs) := by
        intro z e xs h
        rw [frzH_at, Option.map_eq_some_iff] at h
        obtain ⟨o, k1, k2⟩ := h
        simp only [hp, Bool.false_eq_true, if_false] at k2
        cases o <;> simp [O.frz] at k2
        rw [k1]; simp [k2]
      refine .ptr _ _ _ _ _ (by rw [frzH_len]; exact h1) (fun z e xs h => h2 _ _ _ (at_ h)) (fun cs h => ?_) (fun z xs h => h4 _ _ (at_ h))
      rw [frzH_at, Option.map_eq_some_iff] at h
      obtain ⟨o', k1, k2⟩ := h
      simp only [hp, Bool.false_eq_true, if_false] at k2
      cases o' <;> simp [O.frz] at k2
      exact h3 _ k1
  | yl i b h1 h2 =>
    simp only [V.frz]
    refine .yl _ _ (by rw [frzH_len]; exact h1) fun r s h => ?_
    rw [frzH_at, Option.map_eq_some_iff] at h
    obtain ⟨o', k1, k2⟩ := h
    split at k2
    · cases k2
    · cases o' <;> simp [O.frz] at k2
      exact h2 _ _ k1
  | fn f caps vs h1 _ ih =>
    refine .fn _ _ _ (by rw [frzL_map]; simpa using h1) fun j x u hj hu => ?_
    obtain ⟨y, k1, rfl⟩ := frzL_get hj
    exact ih j y u k1 hu
  | agg xs vs h1 _ ih =>
    refine .agg _ _ (by rw [frzL_map]; simpa using h1) fun j x u hj hu => ?_
    obtain ⟨y, k1, rfl⟩ := frzL_get hj
    exact ih j y u k1 hu
  | tup xs vs h1 _ ih =>
    refine .tup _ _ (by rw [frzL_map]; simpa using h1) fun j x u hj hu => ?_
    obtain ⟨y, k1, rfl⟩ := frzL_get hj
    exact ih j y u k1 hu

theorem frz_rep (hH : RepH w A bl H) (p : Nat → Bool) : RepH w (frzA A bl H p) bl (frzH p H) := by
  have halt : ∀ b, frzA A bl H p b → b < w.heap.size := fun b hb => by
    rcases hb with h | ⟨j, d', hj, haj, hbj⟩
    · exact hH.alt b h
    · exact (hH.lt j b d' haj hbj).1
  have hdis : ∀ b, bl.X b → ¬ frzA A bl H p b := fun b hX h => by
    rcases h with h | ⟨j, d', hj, haj, hbj⟩
    · exact (hH.xlt b hX).2 h
    · exact hH.xinj j b d' haj hbj hX
  have hlt : ∀ i b d, alive (frzH p H) i → bl i = some (b, d) → b < w.heap.size ∧ ¬ frzA A bl H p b := fun i b d ha hb => by
    obtain ⟨h1, h2⟩ := frz_alive ha
    refine ⟨(hH.lt i b d h2 hb).1, fun h => ?_⟩
    rcases h with h | ⟨j, d', hj, haj, hbj⟩
    · exact (hH.lt i b d h2 hb).2 h
    · exact hH.inj i j b d d' (fun e => by subst e; rw [h1] at hj; cases hj) h2 haj hb hbj
  refine ⟨fun i o hi => ?_, fun i j b d d' hne ha ha' => hH.inj i j b d d' hne (frz_alive ha).2 (frz_alive ha').2, hlt, halt, fun b hb => ⟨(hH.xlt b hb).1, hdis b hb⟩, fun i b d ha => hH.xinj i b d (frz_alive ha).2, hH.base.mono (fun b hb => .inl hb) (fun _ _ => rfl)⟩
  · have hi0 := hi
    rw [frzH_at, Option.map_eq_some_iff] at hi
    obtain ⟨o', k1, k2⟩ := hi
    split at k2
    · subst k2; trivial
    · subst k2
      have h := hH.obj _ _ k1
      cases o' with
      | gone => trivial
      | yo r s =>
        obtain ⟨b, h1, h2⟩ := h
        refine ⟨b, h1, bl.cx.stable h2 (fun c hc => .inl hc) halt (fun c hc => ?_) (fun _ _ => rfl) (Nat.le_refl _) rfl rfl rfl⟩
        rcases hc with hc | rfl
        · exact hdis c hc
        · exact (hlt i c 0 ⟨_, hi0, rfl⟩ h1).2
      | box cs =>
        obtain ⟨b, arr, t, h1, h2, h3, h4⟩ := h
        refine ⟨b, arr, t, h1, h2, by rw [frzL_map]; simpa using h3, fun j x u hj hu => ?_⟩
        obtain ⟨y, q1, rfl⟩ := frzL_get hj
        exact (h4 j y u q1 hu).frz hH
      | mem z e xs =>
        obtain ⟨h1, h2, h3⟩ := h
        refine ⟨h1, h2, fun b d hb => ?_⟩
        obtain ⟨arr, t, q1, q2, q3⟩ := h3 b d hb
        refine ⟨arr, t, q1, q2, fun k j cs x hk hj => ?_⟩
        obtain ⟨u, u1, u2⟩ := q3 k j cs x hk hj
        exact ⟨u, u1, u2.mono (fun _ _ => rfl) (fun b hb => .inl hb)⟩

theorem frz_liv {p : Nat → Bool} {b : Nat} (h : Liv bl (frzH p H) b) : Liv bl H b := by
  rcases h with ⟨i, d, ha, hb⟩ | h
  · exact .inl ⟨i, d, (frz_alive ha).2, hb⟩
  · exact .inr h

/-- What was held is held, but for what is only read now. -/
theorem frz_le {w0 : World} {A0 : Nat → Prop} {bl0 : Bl} {H0 : Hp} (hl : Le w0 A0 bl0 H0 w A bl H) (p : Nat → Bool) : Le w0 A0 bl0 H0 w (frzA A bl H p) bl (frzH p H) := by
  have at_ : ∀ {i z e : Nat} {xs : List (List C)}, (frzH p H)[i]? = some (.mem z e xs) → H[i]? = some (.mem z e xs) := by
    intro i z e xs h
    rw [frzH_at, Option.map_eq_some_iff] at h
    obtain ⟨o, k1, k2⟩ := h
    split at k2
    · cases k2
    · cases o <;> simp [O.frz] at k2
      rw [k1]; simp [k2]
  refine ⟨hl.C, fun b hb => .inl (hl.A b hb), by rw [frzH_len]; exact hl.len, fun i z e xs hi h => hl.mem i z e xs hi (at_ h), fun i cs hi h => ?_, fun i r s hi h => ?_, hl.cx, fun i z e xs xs' b d n h0 h => hl.row i z e xs xs' b d n h0 (at_ h)⟩
  · rw [frzH_at, Option.map_eq_some_iff] at h
    obtain ⟨o, k1, k2⟩ := h
    split at k2
    · cases k2
    · cases o <;> simp [O.frz] at k2
      exact hl.box i _ hi k1
  · rw [frzH_at, Option.map_eq_some_iff] at h
    obtain ⟨o, k1, k2⟩ := h
    split at k2
    · cases k2
    · cases o <;> simp [O.frz] at k2
      exact hl.yo i _ _ hi k1

/-! ## young again -/
variable {m : Nat}
theorem youngL_map : ∀ {l : List V}, youngL m H l = l.map (V.young m H)
  | [] => rfl
  | v :: r => by simp [youngL, youngL_map (l := r)]
theorem youngL_get {l : List V} {j : Nat} {x : V} (h : (youngL m H l)[j]? = some x) : ∃ y, l[j]? = some y ∧ x = y.young m H := by
  rw [youngL_map, List.getElem?_map, Option.map_eq_some_iff] at h
  obtain ⟨y, h1, h2⟩ := h
  exact ⟨y, h1, h2.symm⟩
theorem youngK_at : ∀ {l : Hp} {k i : Nat}, (youngK m H k l)[i]? = l[i]?.map (O.young m H (k + i))
  | [], k, i => by simp [youngK]
  | o :: r, k, 0 => by simp [youngK]
  | o :: r, k, i + 1 => by
    simp only [youngK, List.getElem?_cons_succ]
    rw [youngK_at, show k + 1 + i = k + (i + 1) by omega]
theorem youngK_len : ∀ {l : Hp} {k : Nat}, (youngK m H k l).length = l.length
  | [], k => rfl
  | o :: r, k => by simp [youngK, youngK_len]
theorem young_at {i : Nat} : (youngK m H 0 H)[i]? = H[i]?.map (O.young m H i) := by
  rw [youngK_at, Nat.zero_add]
theorem young_mem {i z e' : Nat} {xs : List (List C)} (h : (youngK m H 0 H)[i]? = some (.mem z e' xs)) : ∃ e, H[i]? = some (.mem z e xs) ∧ e' = if i < m then e else 0 := by
  rw [young_at, Option.map_eq_some_iff] at h
  obtain ⟨o, h1, h2⟩ := h
  cases o <;> simp [O.young] at h2
  obtain ⟨rfl, h3, rfl⟩ := h2
  exact ⟨_, h1, h3.symm⟩
theorem young_box {i : Nat} {cs : List V} (h : (youngK m H 0 H)[i]? = some (.box cs)) : ∃ cs0, H[i]? = some (.box cs0) ∧ cs = youngL m H cs0 := by
  rw [young_at, Option.map_eq_some_iff] at h
  obtain ⟨o, h1, h2⟩ := h
  cases o <;> simp [O.young] at h2
  exact ⟨_, h1, h2.symm⟩
theorem young_yo {i : Nat} {r : List (List V)} {t : Bool} (h : (youngK m H 0 H)[i]? = some (.yo r t)) : H[i]? = some (.yo r t) := by
  rw [young_at, Option.map_eq_some_iff] at h
  obtain ⟨o, h1, h2⟩ := h
  cases o <;> simp [O.young] at h2
  rw [h1]; simp [h2]
theorem young_alive {i : Nat} : alive (youngK m H 0 H) i ↔ alive H i := by
  constructor
  · rintro ⟨o, h1, h2⟩
    rw [young_at, Option.map_eq_some_iff] at h1
    obtain ⟨o', h3, rfl⟩ := h1
    exact ⟨o', h3, by cases o' <;> first | rfl | simp [O.young, O.live] at h2⟩
  · rintro ⟨o, h1, h2⟩
    exact ⟨o.young m H i, by rw [young_at, h1]; rfl, by cases o <;> first | rfl | simp [O.live] at h2⟩
theorem young_liv {b : Nat} : Liv bl (youngK m H 0 H) b ↔ Liv bl H b :=
  ⟨fun h => h.elim (fun ⟨i, d, h1, h2⟩ => .inl ⟨i, d, young_alive.1 h1, h2⟩) .inr, fun h => h.elim (fun ⟨i, d, h1, h2⟩ => .inl ⟨i, d, young_alive.2 h1, h2⟩) .inr⟩

theorem ageI_spec {i ep e' : Nat} (h : ageI m H i ep = some e') : (i < m ∧ e' = ep) ∨ (m ≤ i ∧ ((∃ z xs, H[i]? = some (.mem z ep xs)) ∧ e' = 0 ∨ (∀ z e xs, H[i]? ≠ some (.mem z e xs)))) := by
  unfold ageI at h
  split at h
  · simp only [Option.some.injEq] at h; exact .inl ⟨‹_›, h.symm⟩
  · refine .inr ⟨by omega, ?_⟩
    split at h
    · split at h <;> simp only [Option.some.injEq, reduceCtorEq] at h
      rename_i z e xs hi he
      subst he
      exact .inl ⟨⟨_, _, hi⟩, h.symm⟩
    · rename_i hne
      exact .inr fun z e xs hi => hne z e xs hi

theorem RepV.young {v : V} {u : Value} (h : RepV w A bl H v u) : RepV w A bl (youngK m H 0 H) (v.young m H) u := by
  induction h with
  | junk => exact .junk _
  | undef => exact .undef
  | c x v h => exact .c _ _ h
  | fp cs a h1 h2 => exact .fp _ _ h1 h2
  | buf i ep off len a l cap h1 h2 h3 =>
    simp only [V.young]
    cases hρ : ageI m H i ep with
    | none => exact .junk _
    | some e' =>
      have hs := ageI_spec hρ
      refine .buf _ _ _ _ _ _ _ (by rw [youngK_len]; exact h1) (fun z e xs hj => ?_) (fun z xs hj => ?_)
      · obtain ⟨e0, k1, rfl⟩ := young_mem hj
        have := h2 _ _ _ k1
        rcases hs with ⟨q1, rfl⟩ | ⟨q1, ⟨_, rfl⟩ | q2⟩
        · rw [if_pos q1]; exact this
        · exact Nat.zero_le _
        · exact absurd k1 (q2 _ _ _)
      · obtain ⟨e0, k1, k2⟩ := young_mem hj
        rcases hs with ⟨q1, rfl⟩ | ⟨q1, ⟨⟨z', xs', q2⟩, rfl⟩ | q2⟩
        · rw [if_pos q1] at k2; subst k2; exact h3 _ _ k1
        · rw [k1] at q2
          simp only [Option.some.injEq, O.mem.injEq] at q2
          obtain ⟨rfl, rfl, rfl⟩ := q2
          exact h3 _ _ k1
        · exact absurd k1 (q2 _ _ _)
  | ptr i ep el o a h1 h2 h3 h4 =>
    simp only [V.young]
    cases hρ : ageI m H i ep with
    | none => exact .junk _
    | some e' =>
      have hs := ageI_spec hρ
      refine .ptr _ _ _ _ _ (by rw [youngK_len]; exact h1) (fun z e xs hj => ?_) (fun cs hj => ?_) (fun z xs hj => ?_)
      · obtain ⟨e0, k1, rfl⟩ := young_mem hj
        have := h2 _ _ _ k1
        rcases hs with ⟨q1, rfl⟩ | ⟨q1, ⟨_, rfl⟩ | q2⟩
        · rw [if_pos q1]; exact this
        · exact Nat.zero_le _
        · exact absurd k1 (q2 _ _ _)
      · obtain ⟨cs0, k1, _⟩ := young_box hj
        exact h3 _ k1
      · obtain ⟨e0, k1, k2⟩ := young_mem hj
        rcases hs with ⟨q1, rfl⟩ | ⟨q1, ⟨⟨z', xs', q2⟩, rfl⟩ | q2⟩
        · rw [if_pos q1] at k2; subst k2; exact h4 _ _ k1
        · rw [k1] at q2
          simp only [Option.some.injEq, O.mem.injEq] at q2
          obtain ⟨rfl, rfl, rfl⟩ := q2
          exact h4 _ _ k1
        · exact absurd k1 (q2 _ _ _)
  | yl i b h1 h2 =>
    simp only [V.young]
    exact .yl _ _ (by rw [youngK_len]; exact h1) fun r s h => h2 _ _ (young_yo h)
  | fn f caps vs h1 _ ih =>
    refine .fn _ _ _ (by rw [youngL_map]; simpa using h1) fun j x u hj hu => ?_
    obtain ⟨y, k1, rfl⟩ := youngL_get hj
    exact ih j y u k1 hu
  | agg xs vs h1 _ ih =>
    refine .agg _ _ (by rw [youngL_map]; simpa using h1) fun j x u hj hu => ?_
    obtain ⟨y, k1, rfl⟩ := youngL_get hj
    exact ih j y u k1 hu
  | tup xs vs h1 _ ih =>
    refine .tup _ _ (by rw [youngL_map]; simpa using h1) fun j x u hj hu => ?_
    obtain ⟨y, k1, rfl⟩ := youngL_get hj
    exact ih j y u k1 hu

theorem young_rep (hH : RepH w A bl H) : RepH w A bl (youngK m H 0 H) := by
  refine ⟨fun i o hi => ?_, fun i j b d d' hij hi hj => hH.inj i j b d d' hij (young_alive.1 hi) (young_alive.1 hj), fun i b d hi => hH.lt i b d (young_alive.1 hi), hH.alt, hH.xlt, fun i b d hi => hH.xinj i b d (young_alive.1 hi), hH.base⟩
  rw [young_at, Option.map_eq_some_iff] at hi
  obtain ⟨o', h1, rfl⟩ := hi
  have := hH.obj i o' h1
  cases o' with
  | gone => trivial
  | yo r s => exact this
  | box cs =>
    obtain ⟨b, arr, t, h1, h2, h3, h4⟩ := this
    refine ⟨b, arr, t, h1, h2, by rw [youngL_map]; simpa using h3, fun j x u hj hu => ?_⟩
    obtain ⟨y, k1, rfl⟩ := youngL_get hj
    exact (h4 j y u k1 hu).young
  | mem z e xs => exact this

theorem youngF_get : ∀ {f : Fr} {t : Nat} {v : V}, get (youngF m H f) t = some v → ∃ x, get f t = some x ∧ v = x.young m H
  | [], t, v, h => by simp [youngF, get] at h
  | (k, x) :: r, t, v, h => by
    simp only [youngF, get] at h ⊢
    split at h
    · simp only [Option.some.injEq] at h
      exact ⟨x, by rw [if_pos ‹_›], h.symm⟩
    · rw [if_neg ‹_›]; exact youngF_get h

theorem young_le {w0 : World} {A0 : Nat → Prop} {bl0 : Bl} {H0 : Hp} (hl : Le w0 A0 bl0 H0 w A bl H) (hm : H0.length ≤ m) : Le w0 A0 bl0 H0 w A bl (youngK m H 0 H) := by
  refine ⟨hl.C, hl.A, by rw [youngK_len]; exact hl.len, fun i z e' xs' hi h => ?_, fun i cs' hi h => ?_, fun i r s hi h => hl.yo i r s hi (young_yo h), hl.cx, fun i z e xs xs' b d n h1 h2 hb hr => ?_⟩
  · obtain ⟨e0, k1, k2⟩ := young_mem h
    rw [if_pos (by omega)] at k2
    subst k2
    exact hl.mem i z e' xs' hi k1
  · obtain ⟨cs0, k1, _⟩ := young_box h
    exact hl.box i cs0 hi k1
  · obtain ⟨e0, k1, k2⟩ := young_mem h2
    have hi := (List.getElem?_eq_some_iff.1 h1).1
    rw [if_pos (by omega)] at k2
    subst k2
    exact hl.row i z e xs xs' b d n h1 k1 hb hr
end
end Go.Ev
