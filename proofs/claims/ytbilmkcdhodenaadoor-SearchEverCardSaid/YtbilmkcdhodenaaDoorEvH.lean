/-
  EV, part H: a call of a Go function, handed what it needs of the heap.
-/
import Derived.Test.YtbilmkcdhodenaaDoorEvG
import Derived.RangeFuncNested
import Derived.OrdersIn
import Derived.LoopNIn
import Derived.Scope
set_option linter.all false
set_option linter.unusedSimpArgs false
set_option linter.unusedVariables false
namespace Go.Ev

/-- Results as one value. -/
def pack (us : List Value) : Value := match us with
  | [u] => u
  | l => .tuple l.toArray

/-- What becomes of a world in a round of somebody else's loop. -/
structure YEvo (w : World) (A X : Nat → Prop) (b : Nat) (w' : World) (A' X' : Nat → Prop) : Prop where
  os : w'.os = w.os
  tape : w'.tape = w.tape
  output : w'.output = w.output
  size : w.heap.size ≤ w'.heap.size
  keep : ∀ c, c < w.heap.size → ¬ X c → c ≠ b → w'.heap[c]? = w.heap[c]?
  inc : ∀ c, A c → A' c
  from_ : ∀ c, A' c → A c ∨ X c ∨ w.heap.size ≤ c
  live : ∀ c, X' c → X c ∨ w.heap.size ≤ c
  alt : ∀ c, A' c → c < w'.heap.size
  xlt : ∀ c, X' c → c < w'.heap.size
  dis : ∀ c, X' c ∨ c = b → ¬ A' c
  xb : ¬ X' b

/-- What a loop over an iterator promises: it takes what it wants next. K: what is known of the world in which all began. -/
structure CtxOk (P : Program) (K : World → Prop) (cx : Ctx) : Prop where
  base : ∀ w, cx.K w → K w
  yield : ∀ {e : List V} {r : List (List V)} {s : Bool} {b : Nat} {A X : Nat → Prop} {w : World}, cx.Y (e :: r) s b A X w → ∀ (bl : Bl) (H : Hp) (us : List Value), RepL w A bl H e us →
    ∃ f tmps asn bd, (Instr.yield b us.toArray).run P w = .ok (.round b f tmps asn bd) w ∧ RoundIn Fence.wide 0 P b f tmps asn bd w fun en w' => ∃ A' X', en = .returned (.bool (yoAns (e :: r) s)) ∧ cx.Y r s b A' X' w' ∧ YEvo w A X b w' A' X'

/-- What a call comes to, in every world that holds what it is handed. -/
def Sound (P : Program) (K : World → Prop) (g : FuncId) (args : List V) (H : Hp) (vals : List V) (H' : Hp) : Prop :=
  ∀ (w : World) (A : Nat → Prop) (bl : Bl) (us : List Value), CtxOk P K bl.cx → RepH w A bl H → RepL w A bl H args us →
    Calls P g us.toArray w fun e w' => ∃ A' bl' rs, e = .returned (pack rs) ∧ RepL w' A' bl' H' vals rs ∧ RepH w' A' bl' H' ∧ Le w A bl H w' A' bl' H' ∧ Evo w A (Liv bl H) w' A' (Liv bl' H')

/-- A call of it enters its body. -/
def Enter (P : Program) (g : FuncId) : Prop := ∀ (args : Array Value) (w : World), (callFunc g args).run P w = .ok (.enter g args) w

def CFok (P : Program) (K : World → Prop) (cf : CF) : Prop := ∀ g args H vals H', cf g args H = some (vals, H') → Enter P g ∧ Sound P K g args H vals H'

section
variable {P : Program} {K : World → Prop} {w w' : World} {A A' : Nat → Prop} {bl bl' : Bl} {H H' : Hp} {fr : Fr} {a : Act}

theorem pack_rep {vals : List V} {rs : List Value} (h : RepL w A bl H vals rs) : RepV w A bl H (tupV vals) (pack rs) := by
  obtain ⟨h1, h2⟩ := h
  have tup : RepV w A bl H (.tup vals) (.tuple rs.toArray) := .tup _ _ (by simpa using h1) (fun j x u hj hu => h2 j x u hj (by simpa using hu))
  match vals, rs, h1, h2, tup with
  | [v], [r], _, h2, _ => exact h2 0 v r rfl rfl
  | [], [], _, _, tup => exact tup
  | _ :: _ :: _, _ :: _ :: _, _, _, tup => exact tup

theorem renF_get {ρ : Nat → Option Nat} : ∀ {fr : Fr} {t : Nat} {v : V}, get (renF ρ fr) t = some v → ∃ x, get fr t = some x ∧ v = x.ren ρ
  | [], t, v, h => by simp [renF, get] at h
  | (k, x) :: r, t, v, h => by
    simp only [renF, get] at h ⊢
    split at h
    · simp only [Option.some.injEq] at h
      exact ⟨x, by simp [*], h.symm⟩
    · obtain ⟨y, h1, h2⟩ := renF_get h
      exact ⟨y, by simp [*], h2⟩
theorem frzF_get {p : Nat → Bool} : ∀ {fr : Fr} {t : Nat} {v : V}, get (frzF H p fr) t = some v → ∃ x, get fr t = some x ∧ v = x.frz H p
  | [], t, v, h => by simp [frzF, get] at h
  | (k, x) :: r, t, v, h => by
    simp only [frzF, get] at h ⊢
    split at h
    · simp only [Option.some.injEq] at h
      exact ⟨x, by simp [*], h.symm⟩
    · obtain ⟨y, h1, h2⟩ := frzF_get h
      exact ⟨y, by simp [*], h2⟩

theorem RepF.frz (hH : RepH w A bl H) {p : Nat → Bool} {tmps : Array Value} (h : RepF w A bl H fr tmps) : RepF w (frzA A bl H p) bl (frzH p H) (frzF H p fr) tmps :=
  ⟨fun t v ht => by
    obtain ⟨x, h1, rfl⟩ := frzF_get ht
    obtain ⟨u, h2, h3⟩ := h.at_ t x h1
    exact ⟨u, h2, h3.frz hH⟩⟩

theorem repL_ren {ρ : Nat → Option Nat} (hr : RenOk ρ bl H bl' H') {l : List V} {us : List Value} (h : RepL w A bl H l us) : RepL w A bl' H' (renL ρ l) us :=
  ⟨by rw [renL_map]; simpa using h.1, fun j x u hj hu => by
    obtain ⟨y, k1, rfl⟩ := renL_get hj
    exact (h.2 j y u k1 hu).ren hr⟩
theorem repL_frz (hH : RepH w A bl H) {p : Nat → Bool} {l : List V} {us : List Value} (h : RepL w A bl H l us) : RepL w (frzA A bl H p) bl (frzH p H) (frzL H p l) us :=
  ⟨by rw [frzL_map]; simpa using h.1, fun j x u hj hu => by
    obtain ⟨y, k1, rfl⟩ := frzL_get hj
    exact (h.2 j y u k1 hu).frz hH⟩

theorem flat_rep {x : V} {u : Value} (hf : x.flat = true) (h : RepV w A bl H x u) {w2 : World} {A2 : Nat → Prop} {bl2 : Bl} {H2 : Hp} : RepV w2 A2 bl2 H2 x u := by
  unfold V.flat at hf
  split at hf
  · rw [h.int_inv]; exact .int _ _
  · rw [h.bool_inv]; exact .bool _
  · rw [h.str_inv]; exact .str _
  · simp at hf
theorem flatL_at : ∀ {l : List V}, flatL l = true → ∀ (j : Nat) (x : V), l[j]? = some x → x.flat = true
  | [], _, j, x, hj => by simp at hj
  | v :: r, h, j, x, hj => by
    simp only [flatL, Bool.and_eq_true] at h
    cases j with
    | zero => simp at hj; subst hj; exact h.1
    | succ j => simp at hj; exact flatL_at h.2 j x hj

/-! ## putting a part back -/
theorem setAll_len : ∀ {ids : List Nat} {l H : Hp}, (setAll H ids l).length = H.length
  | [], l, H => by cases l <;> rfl
  | i :: r, [], H => rfl
  | i :: r, o :: l, H => by simp [setAll, setAll_len (ids := r)]
theorem setAll_at : ∀ {ids : List Nat} {l H : Hp}, distinct ids = true → ids.length = l.length → (∀ (k i : Nat), ids[k]? = some i → i < H.length) → (∀ (k i : Nat), ids[k]? = some i → (setAll H ids l)[i]? = l[k]?) ∧ (∀ i, i ∉ ids → (setAll H ids l)[i]? = H[i]?)
  | [], l, H, _, hl, _ => ⟨fun k i hk => by simp at hk, fun i _ => by cases l <;> rfl⟩
  | j :: r, [], H, _, hl, _ => by simp at hl
  | j :: r, o :: l, H, hd, hl, hb => by
    simp only [distinct, Bool.and_eq_true, Bool.not_eq_true'] at hd
    have hn : j ∉ r := by simpa using hd.1
    obtain ⟨g1, g2⟩ := setAll_at (ids := r) (l := l) (H := H.set j o) hd.2 (by simpa using hl) (fun k i hk => by simpa using hb (k + 1) i (by simpa using hk))
    have hj : j < H.length := hb 0 j rfl
    refine ⟨fun k i hk => ?_, fun i hi => ?_⟩
    · cases k with
      | zero =>
        simp at hk; subst hk
        simp only [setAll]
        rw [g2 j hn, List.getElem?_set_self hj]; rfl
      | succ k => simp at hk; simp only [setAll]; rw [g1 k i hk]; rfl
    · simp only [List.mem_cons, not_or] at hi
      simp only [setAll]
      rw [g2 i hi.2, List.getElem?_set_ne (Ne.symm hi.1)]

/-- Where the objects lie behind a call. -/
def backBl (bl : Bl) (ids : List Nat) (n : Nat) (bs : Bl) : Bl :=
  { bl with loc := fun i => match idx ids i with
    | some k => bs k
    | none => if n ≤ i then bs (ids.length + (i - n)) else bl i }

theorem idx_mem : ∀ {l : List Nat} {i : Nat}, i ∈ l → ∃ k, idx l i = some k
  | j :: r, i, h => by
    unfold idx
    split
    · exact ⟨0, rfl⟩
    · rcases List.mem_cons.1 h with h | h
      · exact absurd h ‹_›
      · obtain ⟨k, hk⟩ := idx_mem h
        simp [hk]
theorem idx_of {l : List Nat} (hd : distinct l = true) {i k : Nat} (h : l[k]? = some i) : idx l i = some k := by
  obtain ⟨k', hk'⟩ := idx_mem (List.mem_of_getElem? h)
  rw [hk', distinct_inj hd (idx_some hk') h]
theorem idx_none {l : List Nat} {i : Nat} (h : i ∉ l) : idx l i = none := by
  cases hi : idx l i with
  | none => rfl
  | some k => exact absurd (List.mem_of_getElem? (idx_some hi)) h

theorem put_back (hH : RepH w A bl H) {ids : List Nat} {h0 h1 : Hp} (ht : take ids H ids = some h0) (hd : distinct ids = true) (hm : ids.length ≤ h1.length) (hn1 : noYo h1 = true) {bs : Bl}
    (hA : ∀ b, A b → A' b) (h1rep : RepH w' A' bs h1) (hle : Le w A (subBl bl ids).noX h0 w' A' bs h1) (hev : Evo w A (Liv (subBl bl ids).noX h0) w' A' (Liv bs h1)) :
    let ρ := back ids H.length
    let H2 := setAll H ids (renH ρ (h1.take ids.length)) ++ renH ρ (h1.drop ids.length)
    let bl2 := backBl bl ids H.length bs
    RenOk ρ bs h1 bl2 H2 ∧ RepH w' A' bl2 H2 ∧ Le w A bl H w' A' bl2 H2 ∧ Evo w A (Liv bl H) w' A' (Liv bl2 H2) := by
  intro ρ H2 bl2
  obtain ⟨t1, t2⟩ := take_at ht
  have hids : ∀ (k i : Nat), ids[k]? = some i → i < H.length := fun k i hk => by
    obtain ⟨o, k1, _⟩ := t2 k i hk
    exact (List.getElem?_eq_some_iff.1 k1).1
  have hlen : (setAll H ids (renH ρ (h1.take ids.length))).length = H.length := setAll_len
  obtain ⟨s1, s2⟩ := setAll_at (H := H) (l := renH ρ (h1.take ids.length)) hd (by rw [renH_map]; simp; omega) hids
  have at1 : ∀ (k i : Nat), ids[k]? = some i → H2[i]? = (h1[k]?).map (O.ren ρ) := by
    intro k i hk
    have hk' := (List.getElem?_eq_some_iff.1 hk).1
    show (setAll H ids (renH ρ (h1.take ids.length)) ++ renH ρ (h1.drop ids.length))[i]? = _
    rw [List.getElem?_append_left (by rw [hlen]; exact hids k i hk), s1 k i hk, renH_map, List.getElem?_map, List.getElem?_take, if_pos hk']
  have at2 : ∀ (i : Nat), i ∉ ids → i < H.length → H2[i]? = H[i]? := by
    intro i hi hlt
    show (setAll H ids (renH ρ (h1.take ids.length)) ++ renH ρ (h1.drop ids.length))[i]? = _
    rw [List.getElem?_append_left (by rw [hlen]; exact hlt), s2 i hi]
  have at3 : ∀ (j : Nat), H2[H.length + j]? = (h1[ids.length + j]?).map (O.ren ρ) := by
    intro j
    show (setAll H ids (renH ρ (h1.take ids.length)) ++ renH ρ (h1.drop ids.length))[_]? = _
    rw [List.getElem?_append_right (by rw [hlen]; omega), renH_map, List.getElem?_map, List.getElem?_drop, hlen]
    congr 3; omega
  have hlen2 : H2.length = H.length + (h1.length - ids.length) := by
    show (setAll H ids (renH ρ (h1.take ids.length)) ++ renH ρ (h1.drop ids.length)).length = _
    rw [List.length_append, hlen, renH_map]; simp
  have b1 : ∀ (k i : Nat), ids[k]? = some i → bl2 i = bs k := fun k i hk => by
    show backBl bl ids H.length bs i = _
    simp [backBl, idx_of hd hk]
  have b2 : ∀ i, i ∉ ids → i < H.length → bl2 i = bl i := fun i hi hlt => by
    show backBl bl ids H.length bs i = _
    simp [backBl, idx_none hi, Nat.not_le.2 hlt]
  have b3 : ∀ j, bl2 (H.length + j) = bs (ids.length + j) := fun j => by
    have hn : H.length + j ∉ ids := fun h => by
      obtain ⟨k, hk, he⟩ := List.mem_iff_getElem.1 h
      have := hids k _ (by rw [List.getElem?_eq_getElem hk, he]); omega
    show backBl bl ids H.length bs (H.length + j) = _
    simp [backBl, idx_none hn]
  -- three kinds of places
  have kinds : ∀ (i : Nat) (o : O), H2[i]? = some o → (∃ k : Nat, ids[k]? = some i) ∨ (i ∉ ids ∧ i < H.length) ∨ ∃ j, i = H.length + j ∧ ids.length + j < h1.length := by
    intro i o hi
    have := (List.getElem?_eq_some_iff.1 hi).1
    by_cases hm' : i ∈ ids
    · obtain ⟨k, hk⟩ := idx_mem hm'; exact .inl ⟨k, idx_some hk⟩
    · rcases Nat.lt_or_ge i H.length with h | h
      · exact .inr (.inl ⟨hm', h⟩)
      · exact .inr (.inr ⟨i - H.length, by omega, by omega⟩)
  have hren : RenOk ρ bs h1 bl2 H2 := by
    refine ⟨fun k i hk hlt => ?_⟩
    have hk' : back ids H.length k = some i := hk
    unfold back at hk'
    split at hk'
    · rename_i i' hi'
      simp only [Option.some.injEq] at hk'
      subst hk'
      refine ⟨by rw [hlen2]; have := hids k _ hi'; omega, b1 k _ hi', fun o' ho' => ?_⟩
      rw [at1 k _ hi', Option.map_eq_some_iff] at ho'
      obtain ⟨o, q1, q2⟩ := ho'
      exact ⟨o, q1, q2.symm⟩
    · rename_i hnone
      simp only [Option.some.injEq] at hk'
      subst hk'
      have hge : ids.length ≤ k := by simpa using hnone
      refine ⟨by rw [hlen2]; omega, by rw [b3]; congr 1; omega, fun o' ho' => ?_⟩
      rw [at3, Option.map_eq_some_iff] at ho'
      obtain ⟨o, q1, q2⟩ := ho'
      exact ⟨o, by rw [← q1]; congr 1; omega, q2.symm⟩
  -- old objects that weren't handed over
  have far : ∀ {i b d}, i ∉ ids → alive H i → bl i = some (b, d) → w'.heap[b]? = w.heap[b]? := fun {i b d} hi ha hb =>
    hev.keep b (hH.lt i b d ha hb).1 fun hL => by
      obtain ⟨k, d', hak, hbk⟩ := hL.resolve_right (fun h => h)
      simp only [Bl.noX] at hbk
      obtain ⟨i', q1, q2⟩ := sub_alive ht hak
      simp only [subBl, q1] at hbk
      exact hH.inj i i' b d d' (fun e => hi (e ▸ List.mem_of_getElem? q1)) ha q2 hb hbk
  have farA : ∀ {i b d}, i ∉ ids → alive H i → bl i = some (b, d) → ¬ A' b := fun {i b d} hi ha hb hb' => by
    have := hH.lt i b d ha hb
    rcases hev.from_ b hb' with h | h | h
    · exact this.2 h
    · obtain ⟨k0, d0, ha0, hb0⟩ := h.resolve_right (fun h => h)
      simp only [Bl.noX] at hb0
      obtain ⟨i', p1, p2⟩ := sub_alive ht ha0
      simp only [subBl, p1] at hb0
      exact hH.inj i i' b d d0 (fun e => hi (e ▸ List.mem_of_getElem? p1)) ha p2 hb hb0
    · omega
  have xL : ∀ {b}, bl.X b → ¬ Liv (subBl bl ids).noX h0 b := fun {b} hX hL => by
    obtain ⟨k, d', hak, hbk⟩ := hL.resolve_right (fun h => h)
    simp only [Bl.noX] at hbk
    obtain ⟨i', q1, q2⟩ := sub_alive ht hak
    simp only [subBl, q1] at hbk
    exact hH.xinj i' b d' q2 hbk hX
  have hard : Ard w w' A' bl bl2 := ⟨rfl, h1rep.alt, fun c hc h => by
      rcases hev.from_ c h with h | h | h
      · exact (hH.xlt c hc).2 h
      · exact xL hc h
      · have := (hH.xlt c hc).1; omega, fun c hc => hev.keep c (hH.xlt c hc).1 (xL hc), hev.size, hev.os, hev.tape, hev.output⟩
  have hle2 : Le w A bl H w' A' bl2 H2 := by
    refine ⟨hle.C, hA, by rw [hlen2]; omega, fun i z e xs hi h => ?_, fun i cs hi h => ?_, fun i r s hi h => ?_, rfl, fun i z e xs xs' b d n h0' h hb hr => ?_⟩
    · rcases kinds i _ h with ⟨k, hk⟩ | ⟨hn, hlt⟩ | ⟨j, rfl, _⟩
      · rw [at1 k i hk, Option.map_eq_some_iff] at h
        obtain ⟨o, q1, q2⟩ := h
        have q2 := O.ren_mem q2.symm
        subst q2
        obtain ⟨o0, r1, r2⟩ := t2 k i hk
        have hk' := (List.getElem?_eq_some_iff.1 hk).1
        obtain ⟨e0, xs0, p1, p2, p3⟩ := hle.mem k z e xs (by omega) q1
        rw [r2] at p1
        simp only [Option.some.injEq] at p1
        have := O.ren_mem p1.symm
        subst this
        refine ⟨e0, xs0, r1, p2, fun he => ?_⟩
        obtain ⟨u1, u2⟩ := p3 he
        refine ⟨u1, ?_⟩
        rw [b1 k i hk, u2]; simp [subBl, Bl.noX, hk]
      · rw [at2 i hn hlt] at h
        exact ⟨e, xs, h, Nat.le_refl _, fun _ => ⟨rfl, b2 i hn hlt⟩⟩
      · omega
    · rcases kinds i _ h with ⟨k, hk⟩ | ⟨hn, hlt⟩ | ⟨j, rfl, _⟩
      · rw [at1 k i hk, Option.map_eq_some_iff] at h
        obtain ⟨o, q1, q2⟩ := h
        obtain ⟨cs1, rfl, _⟩ := O.ren_box q2.symm
        obtain ⟨o0, r1, r2⟩ := t2 k i hk
        have hk' := (List.getElem?_eq_some_iff.1 hk).1
        obtain ⟨cs0, p1, p2⟩ := hle.box k cs1 (by omega) q1
        rw [r2] at p1
        simp only [Option.some.injEq] at p1
        obtain ⟨cs2, rfl, _⟩ := O.ren_box p1.symm
        refine ⟨cs2, r1, ?_⟩
        rw [b1 k i hk, p2]; simp [subBl, Bl.noX, hk]
      · rw [at2 i hn hlt] at h
        exact ⟨cs, h, b2 i hn hlt⟩
      · omega
    · rcases kinds i _ h with ⟨k, hk⟩ | ⟨hn, hlt⟩ | ⟨j, rfl, _⟩
      · rw [at1 k i hk, Option.map_eq_some_iff] at h
        obtain ⟨o, q1, q2⟩ := h
        exact absurd (O.ren_yo q2.symm ▸ q1) (noYo_at hn1 _ _ _)
      · rw [at2 i hn hlt] at h
        exact ⟨r, s, h, b2 i hn hlt⟩
      · omega
    · rcases kinds i _ h with ⟨k, hk⟩ | ⟨hn, hlt⟩ | ⟨j, rfl, _⟩
      · rw [at1 k i hk, Option.map_eq_some_iff] at h
        obtain ⟨o, q1, q2⟩ := h
        have q2 := O.ren_mem q2.symm
        subst q2
        obtain ⟨o0, r1, r2⟩ := t2 k i hk
        rw [h0'] at r1
        simp only [Option.some.injEq] at r1
        subst r1
        exact hle.row k z e xs xs' b d n r2 q1 (by simp [subBl, Bl.noX, hk, hb]) hr
      · rw [at2 i hn hlt] at h
        rw [rowOf_keep (far hn ⟨_, h0', rfl⟩ hb)]; exact hr
      · have := (List.getElem?_eq_some_iff.1 h0').1; omega
  have al : ∀ {i}, alive H2 i → (∃ k : Nat, ids[k]? = some i ∧ alive h1 k) ∨ (i ∉ ids ∧ i < H.length ∧ alive H i) ∨ ∃ j, i = H.length + j ∧ alive h1 (ids.length + j) := by
    intro i ⟨o, h, hlv⟩
    rcases kinds i _ h with ⟨k, hk⟩ | ⟨hn, hlt⟩ | ⟨j, rfl, _⟩
    · rw [at1 k i hk, Option.map_eq_some_iff] at h
      obtain ⟨o1, q1, q2⟩ := h
      exact .inl ⟨k, hk, o1, q1, by rw [← q2, O.ren_live] at hlv; exact hlv⟩
    · rw [at2 i hn hlt] at h
      exact .inr (.inl ⟨hn, hlt, o, h, hlv⟩)
    · rw [at3, Option.map_eq_some_iff] at h
      obtain ⟨o1, q1, q2⟩ := h
      exact .inr (.inr ⟨j, rfl, o1, q1, by rw [← q2, O.ren_live] at hlv; exact hlv⟩)
  -- each object is one of the part's (by its number there) or an old one
  have src : ∀ {i b d}, alive H2 i → bl2 i = some (b, d) → (∃ k : Nat, alive h1 k ∧ bs k = some (b, d) ∧ (ids[k]? = some i ∨ (ids[k]? = none ∧ i = H.length + (k - ids.length)))) ∨ (i ∉ ids ∧ alive H i ∧ bl i = some (b, d)) := by
    intro i b d ha hb
    rcases al ha with ⟨k, hk, hak⟩ | ⟨hn, hlt, hai⟩ | ⟨j, rfl, haj⟩
    · rw [b1 k i hk] at hb; exact .inl ⟨k, hak, hb, .inl hk⟩
    · rw [b2 i hn hlt] at hb; exact .inr ⟨hn, hai, hb⟩
    · rw [b3] at hb
      exact .inl ⟨ids.length + j, haj, hb, .inr ⟨by simp, by omega⟩⟩
  have oldnew : ∀ {i b d k d'}, i ∉ ids → alive H i → bl i = some (b, d) → alive h1 k → bs k = some (b, d') → False := by
    intro i b d k d' hn ha hb hak hbk
    rcases hev.live b (.inl ⟨k, d', hak, hbk⟩) with h | h
    · obtain ⟨k0, d0, ha0, hb0⟩ := h.resolve_right (fun h => h)
      simp only [Bl.noX] at hb0
      obtain ⟨i', q1, q2⟩ := sub_alive ht ha0
      simp only [subBl, q1] at hb0
      exact hH.inj i i' b d d0 (fun e => hn (e ▸ List.mem_of_getElem? q1)) ha q2 hb hb0
    · have := (hH.lt i b d ha hb).1; omega
  have hobj : ∀ {k i : Nat} {o1 : O}, h1[k]? = some o1 → bl2 i = bs k → RepO w' A' bl2 H2 i (o1.ren ρ) := fun {k i o1} q1 hb => by
    have hc : bs.cx = bl.cx := hle.cx
    exact ((h1rep.obj _ _ q1).setX (X := bl.X) fun r s e => noYo_at hn1 k r s (e ▸ q1)).ren (bl := { bs with X := bl.X }) ⟨hren.at_⟩ rfl hc.symm hb
  have hrep : RepH w' A' bl2 H2 := by
    refine ⟨fun i o hi => ?_, fun i j b d d' hne ha ha' hb hb' => ?_, fun i b d ha hb => ?_, h1rep.alt, fun b hb => ⟨Nat.lt_of_lt_of_le (hH.xlt b hb).1 hev.size, hard.dis b hb⟩, fun i b d ha hb hX => ?_, hH.base.mono hA hle.C⟩
    · rcases kinds i _ hi with ⟨k, hk⟩ | ⟨hn, hlt⟩ | ⟨j, rfl, _⟩
      · rw [at1 k i hk, Option.map_eq_some_iff] at hi
        obtain ⟨o1, q1, q2⟩ := hi
        subst q2
        exact hobj q1 (b1 k i hk)
      · rw [at2 i hn hlt] at hi
        cases hlv : o.live with
        | false => cases o <;> simp [O.live] at hlv; trivial
        | true => exact (hH.obj i o hi).mono hle2 hard (b2 i hn hlt) (fun b d hb => far hn ⟨o, hi, hlv⟩ hb) (fun b d hb => farA hn ⟨o, hi, hlv⟩ hb)
      · rw [at3, Option.map_eq_some_iff] at hi
        obtain ⟨o1, q1, q2⟩ := hi
        subst q2
        exact hobj q1 (b3 j)
    · rcases src ha hb with ⟨k, q1, q2, q3⟩ | ⟨n1, q1, q2⟩ <;> rcases src ha' hb' with ⟨k', r1, r2, r3⟩ | ⟨n2, r1, r2⟩
      · refine h1rep.inj k k' b d d' (fun e => hne ?_) q1 r1 q2 r2
        subst e
        rcases q3 with q3 | ⟨q3, q4⟩ <;> rcases r3 with r3 | ⟨r3, r4⟩
        · rw [q3] at r3; simpa using r3
        · rw [q3] at r3; cases r3
        · rw [q3] at r3; cases r3
        · rw [q4, r4]
      · exact oldnew n2 r1 r2 q1 q2
      · exact oldnew n1 q1 q2 r1 r2
      · exact hH.inj i j b d d' hne q1 r1 q2 r2
    · rcases src ha hb with ⟨k, q1, q2, _⟩ | ⟨n1, q1, q2⟩
      · exact h1rep.lt k b d q1 q2
      · exact ⟨Nat.lt_of_lt_of_le (hH.lt i b d q1 q2).1 hev.size, farA n1 q1 q2⟩
    · rcases src ha hb with ⟨k, q1, q2, _⟩ | ⟨n1, q1, q2⟩
      · rcases hev.live b (.inl ⟨k, d, q1, q2⟩) with h | h
        · exact xL hX h
        · have := (hH.xlt b hX).1; omega
      · exact hH.xinj i b d q1 q2 hX
  refine ⟨hren, hrep, hle2, ⟨hev.os, hev.tape, hev.output, hev.size, fun b hb hn => hev.keep b hb fun hL => hn (sub_liv ht (noX_liv hL)), fun b hb => ?_, fun b hb => ?_⟩⟩
  · rcases hb with ⟨i, d, ha, hb⟩ | hb
    · rcases src ha hb with ⟨k, q1, q2, _⟩ | ⟨n1, q1, q2⟩
      · rcases hev.live b (.inl ⟨k, d, q1, q2⟩) with h | h
        · exact .inl (sub_liv ht (noX_liv h))
        · exact .inr h
      · exact .inl (.inl ⟨i, d, q1, q2⟩)
    · exact .inl (.inr hb)
  · rcases hev.from_ b hb with h | h | h
    · exact .inl h
    · exact .inr (.inl (sub_liv ht (noX_liv h)))
    · exact .inr (.inr h)

theorem frz_evo (hH : RepH w A bl H) (p : Nat → Bool) : Evo w A (Liv bl H) w (frzA A bl H p) (Liv bl (frzH p H)) :=
  ⟨rfl, rfl, rfl, Nat.le_refl _, fun _ _ _ => rfl, fun b hb => .inl (frz_liv hb), fun b hb => hb.elim .inl fun ⟨i, d, _, h1, h2⟩ => .inr (.inl (.inl ⟨i, d, h1, h2⟩))⟩

/-- A call, in its caller's frame. -/
theorem xcall_sound {cf : CF} (hcf : CFok P K cf) (hcx : CtxOk P K bl.cx) (hH : RepH w A bl H) {tmps : Array Value} (hF : RepF w A bl H fr tmps) {byref : Nat → Bool} {g : FuncId} {args vals : List V} {fr' : Fr} {k : Nat} {us : List Value} (hargs : RepL w A bl H args us)
    (h : xcall byref cf g args fr H = some (vals, fr', H', k)) :
    Enter P g ∧ Calls P g us.toArray w fun e w' => ∃ A' bl' rs, e = .returned (pack rs) ∧ RepL w' A' bl' H' vals rs ∧ RepH w' A' bl' H' ∧ RepF w' A' bl' H' fr' tmps ∧ Evo w A (Liv bl H) w' A' (Liv bl' H') ∧
      ∀ w0 A0 bl0 H0, Le w0 A0 bl0 H0 w A bl H → Le w0 A0 bl0 H0 w' A' bl' H' := by
  unfold xcall at h
  dsimp only at h
  generalize hS : snapIds byref 0 args = S at h
  generalize hp : (fun i => S.contains i : Nat → Bool) = p at h
  -- the rows that are only read from now on
  obtain ⟨A1, hH1, hF1, hargs1, hle1, hev1, hsub⟩ : ∃ A1, RepH w A1 bl (if S.isEmpty = true then H else frzH p H) ∧ RepF w A1 bl (if S.isEmpty = true then H else frzH p H) (if S.isEmpty = true then fr else frzF H p fr) tmps ∧
      RepL w A1 bl (if S.isEmpty = true then H else frzH p H) (if S.isEmpty = true then args else frzL H p args) us ∧ (∀ w0 A0 bl0 H0, Le w0 A0 bl0 H0 w A bl H → Le w0 A0 bl0 H0 w A1 bl (if S.isEmpty = true then H else frzH p H)) ∧
      Evo w A (Liv bl H) w A1 (Liv bl (if S.isEmpty = true then H else frzH p H)) ∧ ∀ b, A b → A1 b := by
    cases hSe : S.isEmpty with
    | true => exact ⟨A, by simpa using hH, by simpa using hF, by simpa using hargs, fun _ _ _ _ hl => by simpa using hl, by simpa using Evo.refl w A (Liv bl H), fun _ h => h⟩
    | false =>
      simp only [Bool.false_eq_true, if_false]
      exact ⟨frzA A bl H p, frz_rep hH p, hF.frz hH, repL_frz hH hargs, fun _ _ _ _ hl => frz_le hl p, frz_evo hH p, fun b hb => .inl hb⟩
  generalize hH1e : (if S.isEmpty = true then H else frzH p H) = H1 at h hH1 hF1 hargs1 hle1 hev1
  generalize hF1e : (if S.isEmpty = true then fr else frzF H p fr) = fr1 at h hF1
  generalize hA1e : (if S.isEmpty = true then args else frzL H p args) = args1 at h hargs1
  generalize reach H1 (2 * H.length + 40) (idsL args1) [] = ids at h
  split at h
  case h_1 => simp at h
  rename_i h0 ht
  split at h
  case isFalse => simp at h
  rename_i hd
  split at h
  case h_1 => simp at h
  rename_i vals0 h1 hcall
  obtain ⟨ht, hn0⟩ := takeC_some ht
  have hsr := noX_rep (sub_rep hH1 ht hd) hn0
  have hsa0 := repL_ren (sub_ren (bl := bl) ht) hargs1
  have hsa : RepL w A1 (subBl bl ids).noX h0 _ us := ⟨hsa0.1, fun j x u hj hu => (hsa0.2 j x u hj hu).mono noX_le⟩
  refine ⟨(hcf _ _ _ _ _ hcall).1, ((hcf _ _ _ _ _ hcall).2 w A1 (subBl bl ids).noX us hcx hsr hsa).mono ?_⟩
  rintro e w' ⟨A', bs, rs, rfl, hv, hr1, hle, hev⟩
  split at h
  · rename_i hflat
    simp only [Option.some.injEq, Prod.mk.injEq] at h
    obtain ⟨rfl, rfl, rfl, _⟩ := h
    simp only [Bool.and_eq_true, List.isEmpty_iff] at hflat
    obtain ⟨⟨rfl, hfl⟩, rfl⟩ := hflat
    simp only [take, Option.some.injEq] at ht
    subst ht
    have noL : ∀ b, ¬ Liv (subBl bl []).noX ([] : Hp) b := fun b h => by
      obtain ⟨i, d, ⟨o, ho, _⟩, _⟩ := h.resolve_right (fun h => h)
      simp at ho
    have g : Grow w w' := ⟨hev.os, hev.tape, hev.output, hev.size, fun b hb => hev.keep b hb (noL b)⟩
    obtain ⟨q1, q2⟩ := grow hH g (N := fun _ => False) (fun b hb => hb.elim)
    exact ⟨_, bl, rs, rfl, ⟨hv.1, fun j x u hj hu => flat_rep (flatL_at hfl j x hj) (hv.2 j x u hj hu)⟩, q1, hF.mono q2, g.evo (fun b hb => .inl hb) (fun b hb => hb.elim .inl False.elim), fun _ _ _ _ hl => hl.trans q2⟩
  · split at h <;> simp only [Option.some.injEq, Prod.mk.injEq, reduceCtorEq] at h
    rename_i hm
    obtain ⟨rfl, rfl, rfl, _⟩ := h
    obtain ⟨q1, q2, q3, q4⟩ := put_back hH1 ht hd hm.1 hm.2 hle.A hr1 hle hev
    exact ⟨A', _, rs, rfl, repL_ren q1 hv, q2, hF1.mono q3, hev1.trans q4, fun _ _ _ _ hl => (hle1 _ _ _ _ hl).trans q3⟩
end
end Go.Ev
