/-
  Chapter 13 (posting), plain: what slices.SortFunc makes of postings; two lists as one.
-/
import Derived.Test.YtbilmkcdhodenaaDoorPM2
import Derived.Test.YtbilmkcdhodenaaDoorPX
import Derived.Sort.AssemblyPlain
set_option linter.all false
set_option linter.unusedSimpArgs false
set_option linter.unusedVariables false
namespace Go.Proofs.YtbilmkcdhodenaaDoor
open Go Go.Ev Go.Sort

theorem swoO : SWO (fun x y : Pst => decide (orderP x y < 0)) where
  irrefl x := by
    have := lessP_irrefl x
    rw [← Bool.not_eq_true, ← orderP_neg] at this
    simpa using this
  trans x y z h1 h2 := by
    simp only [decide_eq_true_eq] at *
    rw [orderP_neg] at *
    exact lessP_trans h1 h2
  ntrans x y z h1 h2 := by
    simp only [decide_eq_false_iff_not] at *
    rw [orderP_neg, Bool.not_eq_true] at *
    exact lessP_ntrans h1 h2
theorem sortO_spec (l : List Pst) (h : l.length < 4611686018427387904) : (sortO l).Perm l ∧ (sortO l).Pairwise (fun x y => lessP y x = false) := by
  have hs : l.toArray.size = l.length := by simp
  obtain ⟨h1, h2⟩ := pdq_sorts (fun x y : Pst => decide (orderP x y < 0)) swoO l.toArray 0 l.toArray.size (Lib.bitLen l.toArray.size) true true (Nat.zero_le _) (Nat.le_refl _) (Or.inl rfl)
  rw [hs] at h1 h2
  unfold sortO
  generalize pdq (fun x y : Pst => decide (orderP x y < 0)) l.toArray 0 l.length (Lib.bitLen l.length) true true = d at h1 h2
  obtain ⟨p1, p2, p3⟩ := h1
  rw [hs] at p1
  constructor
  · rw [show d.extract 0 l.length = d by rw [← p1]; simp, show l.toArray.extract 0 l.length = l.toArray by simp] at p3
    simpa using p3
  · rw [List.pairwise_iff_getElem]
    intro i j hi hj hij
    have hi' : i < d.size := by simpa using hi
    have hj' : j < d.size := by simpa using hj
    have := h2 i j (Nat.zero_le _) hij (by omega)
    simp only [decide_eq_false_iff_not] at this
    rw [orderP_neg, Bool.not_eq_true] at this
    rw [getElem!_pos d i hi', getElem!_pos d j hj'] at this
    simpa using this
theorem sortO_len (l : List Pst) (h : l.length < 4611686018427387904) : (sortO l).length = l.length := (sortO_spec l h).1.length_eq
/-- The program's way: laid behind each other, sorted, looked through. -/
theorem addP_sort {l m : List Pst} (hl : okP l = true) (hm : okP m = true) (h : l.length + m.length < 4611686018427387904) :
    addP l m = if twiceP (sortO (l ++ m)) = true then ([], 16) else (sortO (l ++ m), 0) := by
  obtain ⟨h1, h2⟩ := sortO_spec (l ++ m) (by simpa using h)
  unfold addP
  rw [if_pos ⟨hl, hm⟩, sorted_merge hl hm h1 h2]
  cases twiceP (sortO (l ++ m)) <;> rfl
theorem twice_step {s : List Pst} {k : Nat} (h : k + 1 < s.length) : twiceP (s.drop k) = (decide (orderP s[k] s[k + 1] = 0) || twiceP (s.drop (k + 1))) := by
  rw [List.drop_eq_getElem_cons (show k < s.length by omega), List.drop_eq_getElem_cons h]
  rfl
theorem twice_end {s : List Pst} {k : Nat} (h : s.length ≤ k + 1) : twiceP (s.drop k) = false := by
  rcases Nat.lt_or_ge k s.length with hk | hk
  · rw [List.drop_eq_getElem_cons hk, List.drop_of_length_le h]; rfl
  · rw [List.drop_of_length_le hk]; rfl
theorem mergeP_nil_l (n : Nat) (m : List Pst) (h : m.length ≤ n) : mergeP n [] m = some m := by
  cases n with
  | zero => rw [List.length_eq_zero_iff.1 (Nat.le_zero.1 h)]; rfl
  | succ n => rfl
theorem mergeP_nil_r (n : Nat) (l : List Pst) (h : l.length ≤ n) : mergeP n l [] = some l := by
  cases n with
  | zero => rw [List.length_eq_zero_iff.1 (Nat.le_zero.1 h)]; rfl
  | succ n => cases l <;> rfl
/-- What the reference has put together so far, and what is still to come. -/
def resA (acc : List Pst) (r : Option (List Pst)) : List Pst × Int := match r with
  | some s => (acc ++ s, 0)
  | none => ([], 16)
theorem resA_map (acc : List Pst) (x : Pst) (r : Option (List Pst)) : resA acc (r.map (x :: ·)) = resA (acc ++ [x]) r := by
  cases r <;> simp [resA]
theorem addP_res {l m : List Pst} (hl : okP l = true) (hm : okP m = true) : addP l m = resA [] (mergeP (l.length + m.length) l m) := by
  unfold addP resA
  rw [if_pos ⟨hl, hm⟩]
  cases mergeP (l.length + m.length) l m <;> rfl
theorem addP_len (l m : List Pst) : (addP l m).1.length ≤ l.length + m.length := by
  unfold addP
  split
  · rename_i h
    cases hk : mergeP (l.length + m.length) l m with
    | none => simp
    | some s =>
      have := (mergeP_some _ l m s (Nat.le_refl _) hk (okP_lt h.1) (okP_lt h.2)).1.length_eq
      simp only [List.length_append] at this
      simp [this]
  · simp
/-- What is put together is right. -/
theorem addP_ok {l m : List Pst} (h : (addP l m).2 = 0) : okP l = true ∧ okP m = true ∧ (addP l m).1.Perm (l ++ m) ∧ okP (addP l m).1 = true := by
  unfold addP at *
  split at h
  · rename_i hh
    refine ⟨hh.1, hh.2, ?_⟩
    rw [if_pos hh]
    cases hk : mergeP (l.length + m.length) l m with
    | none => rw [hk] at h; simp at h
    | some s =>
      obtain ⟨h1, h2⟩ := mergeP_some _ l m s (Nat.le_refl _) hk (okP_lt hh.1) (okP_lt hh.2)
      refine ⟨h1, okFrom_of (fun x hx => ?_) h2 fun w hw => by cases hw⟩
      have := h1.mem_iff.1 hx
      rw [List.mem_append] at this
      exact this.elim (okFrom_mem hh.1 x) (okFrom_mem hh.2 x)
  · simp at h
end Go.Proofs.YtbilmkcdhodenaaDoor
