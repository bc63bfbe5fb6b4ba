/- Runs: plain laws of the normal form: it is its own one; a list of single pages has the same one. -/
import Derived.Test.YtjdkdogiaokhjaaRp
namespace Go.Proofs.Ytjdkdogiaokhjaa
set_option linter.unusedSimpArgs false
set_option linter.unusedVariables false

/-- nothing that is glued stands side by side, and no run is empty -/
inductive NF : List R → Prop
  | nil : NF []
  | one (r : R) (h : r.2 ≠ 0) : NF [r]
  | snoc (l : List R) (x r : R) (h : NF (l ++ [x])) (hr : r.2 ≠ 0) (hg : glue x r = false) : NF (l ++ [x] ++ [r])
theorem NF.init {l : List R} {x : R} (h : NF (l ++ [x])) : NF l := by
  generalize hm : l ++ [x] = m at h
  cases h with
  | nil => simp at hm
  | one r h =>
    have : l = [] := by
      have := congrArg List.length hm
      simp at this; exact this
    subst this; exact .nil
  | snoc l' x' r h hr hg =>
    have := List.append_inj' hm (by simp)
    rw [this.1]; exact h
theorem NF.last {l : List R} {x : R} (h : NF (l ++ [x])) : x.2 ≠ 0 := by
  generalize hm : l ++ [x] = m at h
  cases h with
  | nil => simp at hm
  | one r h =>
    have : l = [] := by
      have := congrArg List.length hm
      simp at this; exact this
    subst this; simp at hm; subst hm; exact h
  | snoc l' x' r h hr hg =>
    have := List.append_inj' hm (by simp)
    simp at this; rw [this.2]; exact hr
theorem NF.glue_ {l : List R} {x r : R} (h : NF (l ++ [x] ++ [r])) : glue x r = false := by
  generalize hm : l ++ [x] ++ [r] = m at h
  cases h with
  | nil => simp at hm
  | one r h => have := congrArg List.length hm; simp at this
  | snoc l' x' r' h hr hg =>
    have h1 := List.append_inj' hm (by simp)
    have h2 := List.append_inj' h1.1 (by simp)
    have e1 := h1.2; have e2 := h2.2
    simp at e1 e2
    rw [e1, e2]; exact hg
/-- all 'Many' from 0 on -/
def Pos0 (l : List R) : Prop := ∀ r ∈ l, 0 ≤ r.2
theorem NF.regrow {l : List R} {x : R} (h : NF (l ++ [x])) {m : Int} (hm : m ≠ 0) : NF (l ++ [(x.1, m)]) := by
  rcases List.eq_nil_or_concat l with rfl | ⟨l', y, rfl⟩
  · exact .one _ hm
  · rw [List.concat_eq_append] at *
    have hg := h.glue_
    exact .snoc _ _ _ h.init hm (by simpa [glue] using hg)
theorem NF.addR_ {l : List R} {r : R} (h : NF l) (hl : Pos0 l) (hr : 0 ≤ r.2) : NF (addR l r) := by
  rcases List.eq_nil_or_concat l with rfl | ⟨l', x, rfl⟩
  · by_cases h0 : r.2 = 0
    · rw [addR_zero _ _ h0]; exact h
    · rw [addR_nil _ h0]; exact .one _ h0
  · rw [List.concat_eq_append] at *
    by_cases h0 : r.2 = 0
    · rw [addR_zero _ _ h0]; exact h
    · rw [addR_snoc _ _ _ h0]
      have hx := hl x (by simp)
      split
      · exact h.regrow (by omega)
      · rename_i hg
        exact .snoc _ _ _ h h0 (by simpa using hg)
theorem pos0_addR {l : List R} {r : R} (hl : Pos0 l) (hr : 0 ≤ r.2) : Pos0 (addR l r) := by
  rcases List.eq_nil_or_concat l with rfl | ⟨l', x, rfl⟩
  · by_cases h0 : r.2 = 0
    · rw [addR_zero _ _ h0]; exact hl
    · rw [addR_nil _ h0]; intro y hy; simp at hy; subst hy; exact hr
  · rw [List.concat_eq_append] at *
    by_cases h0 : r.2 = 0
    · rw [addR_zero _ _ h0]; exact hl
    · rw [addR_snoc _ _ _ h0]
      have hx := hl x (by simp)
      intro y hy
      split at hy
      · simp only [List.mem_append, List.mem_singleton] at hy
        rcases hy with hy | rfl
        · exact hl y (by simp [hy])
        · simp only; omega
      · simp only [List.mem_append, List.mem_singleton] at hy
        rcases hy with (hy | rfl) | rfl
        · exact hl y (by simp [hy])
        · exact hx
        · exact hr
theorem nf_addAll (l : List R) : ∀ out, NF out → Pos0 out → Pos0 l → NF (addAll out l) ∧ Pos0 (addAll out l) := by
  induction l with
  | nil => intro out h h1 _; exact ⟨by simpa [addAll] using h, by simpa [addAll] using h1⟩
  | cons r l ih =>
    intro out h h1 h2
    have hr := h2 r (by simp)
    have := ih (addR out r) (h.addR_ h1 hr) (pos0_addR h1 hr) (fun y hy => h2 y (by simp [hy]))
    simpa [addAll] using this
theorem nf_norm {l : List R} (h : Pos0 l) : NF (norm l) ∧ Pos0 (norm l) := nf_addAll l [] .nil (fun r hr => by simp at hr) h
theorem addAll_of_nf {l : List R} (h : NF l) : norm l = l := by
  induction h with
  | nil => rfl
  | one r h => simp [norm, addAll, addR, h]
  | snoc l x r h hr hg ih =>
    unfold norm at *
    rw [addAll_snoc, ih, addR_snoc _ _ _ hr, hg]; rfl
theorem norm_norm {l : List R} (h : Pos0 l) : norm (norm l) = norm l := addAll_of_nf (nf_norm h).1
/-- the runs of a valid mapping -/
def OkL (l : List R) : Prop := ∀ r ∈ l, okR r = true
theorem OkL.pos {l : List R} (h : OkL l) : Pos0 l := fun r hr => by have := (okR_iff r).1 (h r hr); omega
theorem OkL.take {l : List R} (h : OkL l) (k : Nat) : OkL (l.take k) := fun r hr => h r (List.mem_of_mem_take hr)
theorem okL_of_must {l : List R} (h : mustE l = 0) : OkL l := fun r hr => List.all_eq_true.1 (mustE_zero h).2.1 r hr
theorem okL_addR {l : List R} {r : R} (hl : OkL l) (hr : okR r = true) (hs : sumR l + r.2 ≤ 1073741824) : OkL (addR l r) := by
  have hr' := (okR_iff r).1 hr
  rcases List.eq_nil_or_concat l with rfl | ⟨l', x, rfl⟩
  · rw [addR_nil _ (by omega)]; intro y hy; simp at hy; subst hy; exact hr
  · rw [List.concat_eq_append] at *
    rw [addR_snoc _ _ _ (by omega)]
    have hx := (okR_iff x).1 (hl x (by simp))
    have hp := sumR_nonneg (l := l') (fun y hy => hl.pos y (by simp [hy]))
    have hs' : sumR l' + x.2 + r.2 ≤ 1073741824 := by rw [sumR_append] at hs; simp [sumR] at hs; omega
    intro y hy
    split at hy
    · rename_i hg
      simp only [List.mem_append, List.mem_singleton] at hy
      rcases hy with hy | rfl
      · exact hl y (by simp [hy])
      · rw [okR_iff]
        simp [glue] at hg
        simp only
        omega
    · simp only [List.mem_append, List.mem_singleton] at hy
      rcases hy with (hy | rfl) | rfl
      · exact hl y (by simp [hy])
      · exact hl _ (by simp)
      · exact hr
theorem okL_addAll (l : List R) : ∀ out, OkL out → OkL l → sumR out + sumR l ≤ 1073741824 → OkL (addAll out l) := by
  induction l with
  | nil => intro out h _ _; simpa [addAll] using h
  | cons r l ih =>
    intro out h hl hs
    have hr := hl r (by simp)
    have h2 := sumR_nonneg (l := l) (fun y hy => hl.pos y (by simp [hy]))
    simp only [sumR] at hs
    have := ih (addR out r) (okL_addR h hr (by omega)) (fun y hy => hl y (by simp [hy])) (by rw [addR_sum]; omega)
    simpa [addAll] using this
theorem must_of {l : List R} (h1 : l.length ≤ 2000) (h2 : OkL l) (h3 : sumR l ≤ 1073741824) : mustE l = 0 := by
  have : l.all okR = true := List.all_eq_true.2 h2
  unfold mustE
  rw [if_neg (by omega), if_neg (by simp [this]), if_neg (by omega)]
theorem must_norm {l : List R} (h : mustE l = 0) : mustE (norm l) = 0 := by
  obtain ⟨h1, h2, h3⟩ := mustE_zero h
  exact must_of (Nat.le_trans (norm_len l) h1) (okL_addAll l [] (fun r hr => by simp at hr) (okL_of_must h) (by simpa [sumR] using h3)) (by rw [norm_sum]; exact h3)
/-- a run cut into single pages -/
def ones (r : R) (k : Nat) : List R := (List.range k).map fun (i : Nat) => (if 0 ≤ r.1 then r.1 + (i : Int) else r.1, (1 : Int))
def singles (l : List R) : List R := l.flatMap fun r => ones r r.2.toNat
theorem ones_succ (r : R) (k : Nat) : ones r (k + 1) = ones r k ++ [(if 0 ≤ r.1 then r.1 + k else r.1, 1)] := by simp [ones, List.range_succ]
theorem addR_ones (out : List R) (r : R) (hr : -1 ≤ r.1) (k : Nat) : addR (addR out (r.1, ((k : Int) + 1))) (if 0 ≤ r.1 then r.1 + ((k : Int) + 1) else r.1, 1) = addR out (r.1, ((k : Int) + 2)) := by
  have h1 : (k : Int) + 1 ≠ 0 := by omega
  have h2 : (k : Int) + 2 ≠ 0 := by omega
  have hg : ∀ m : Int, m = (k : Int) + 1 → glue (r.1, m) (if 0 ≤ r.1 then r.1 + ((k : Int) + 1) else r.1, 1) = true := by
    intro m hm; subst hm
    unfold glue
    by_cases h0 : 0 ≤ r.1
    · have e1 : r.1 ≠ -1 := by omega
      have e2 : r.1 + ((k : Int) + 1) ≠ -1 := by omega
      simp [h0, e1, e2]
    · have e1 : r.1 = -1 := by omega
      simp [e1]
  have h11 : (1 : Int) ≠ 0 := by omega
  rcases List.eq_nil_or_concat out with rfl | ⟨l, x, rfl⟩
  · rw [addR_nil _ h1, addR_nil _ h2]
    have := addR_snoc [] (r.1, (k : Int) + 1) (if 0 ≤ r.1 then r.1 + ((k : Int) + 1) else r.1, 1) h11
    simp only [List.nil_append] at this
    rw [this, if_pos (hg _ rfl)]
    simp only [List.nil_append, List.cons.injEq, Prod.mk.injEq, true_and, and_true]; omega
  · rw [List.concat_eq_append, addR_snoc _ _ _ h1, addR_snoc _ _ _ h2]
    have hgx : glue x (r.1, (k : Int) + 1) = glue x (r.1, (k : Int) + 2) := rfl
    rw [hgx]
    split
    · rename_i hgt
      rw [addR_snoc _ _ _ h11, if_pos]
      · congr 2; simp only [Prod.mk.injEq, true_and]; omega
      · simp [glue] at hgt ⊢
        rcases hgt with ⟨a, b⟩ | ⟨⟨a, b⟩, c⟩
        · simp [a, b]
        · refine .inr ⟨⟨?_, b⟩, ?_⟩ <;> split <;> omega
    · rw [addR_snoc _ _ _ h11, if_pos (hg _ rfl)]
      simp only [List.append_cancel_left_eq, List.cons.injEq, Prod.mk.injEq, true_and, and_true]; omega
theorem addAll_ones (out : List R) (r : R) (hr : -1 ≤ r.1) : ∀ k : Nat, addAll out (ones r (k + 1)) = addR out (r.1, (k : Int) + 1)
  | 0 => by
    simp only [ones_succ]
    simp [ones, addAll]
  | k + 1 => by
    rw [ones_succ, addAll_snoc, addAll_ones out r hr k]
    have := addR_ones out r hr k
    rw [show ((k + 1 : Nat) : Int) = (k : Int) + 1 by omega, show (k : Int) + 1 + 1 = (k : Int) + 2 by omega]
    exact this
theorem addAll_singles (l : List R) (h : ∀ r ∈ l, -1 ≤ r.1 ∧ 1 ≤ r.2) : ∀ out, addAll out (singles l) = addAll out l := by
  induction l with
  | nil => intro out; rfl
  | cons r l ih =>
    intro out
    have hr := h r (by simp)
    have e : singles (r :: l) = ones r r.2.toNat ++ singles l := by simp [singles]
    rw [e, addAll_append, ih (fun y hy => h y (by simp [hy]))]
    obtain ⟨k, hk⟩ : ∃ k : Nat, r.2.toNat = k + 1 := ⟨r.2.toNat - 1, by omega⟩
    rw [hk, addAll_ones _ _ hr.1, show (r.1, (k : Int) + 1) = r from Prod.ext rfl (by simp only; omega)]
    simp [addAll]
theorem norm_singles {l : List R} (h : OkL l) : norm (singles l) = norm l := addAll_singles l (fun r hr => by have := (okR_iff r).1 (h r hr); omega) []
theorem ones_len (r : R) (k : Nat) : (ones r k).length = k := by simp [ones]
theorem ones_sum (r : R) : ∀ k, sumR (ones r k) = k
  | 0 => by simp [ones, sumR]
  | k + 1 => by rw [ones_succ, sumR_append, ones_sum r k]; simp [sumR]
theorem singles_sum {l : List R} (h : Pos0 l) : sumR (singles l) = sumR l := by
  induction l with
  | nil => rfl
  | cons r l ih =>
    have e : singles (r :: l) = ones r r.2.toNat ++ singles l := by simp [singles]
    rw [e, sumR_append, ones_sum, ih (fun y hy => h y (by simp [hy]))]
    have := h r (by simp)
    simp only [sumR]; omega
theorem singles_len {l : List R} (h : Pos0 l) : ((singles l).length : Int) = sumR l := by
  induction l with
  | nil => rfl
  | cons r l ih =>
    have e : singles (r :: l) = ones r r.2.toNat ++ singles l := by simp [singles]
    have := ih (fun y hy => h y (by simp [hy]))
    have := h r (by simp)
    rw [e, List.length_append, ones_len]
    simp only [sumR]; omega
theorem ones_ok {r : R} (h : okR r = true) (k : Nat) (hk : (k : Int) ≤ r.2) : OkL (ones r k) := by
  intro y hy
  simp only [ones, List.mem_map, List.mem_range] at hy
  obtain ⟨i, hi, rfl⟩ := hy
  have := (okR_iff r).1 h
  rw [okR_iff]
  simp only
  split <;> omega
theorem singles_ok {l : List R} (h : OkL l) : OkL (singles l) := by
  intro y hy
  simp only [singles, List.mem_flatMap] at hy
  obtain ⟨r, hr, hy⟩ := hy
  exact ones_ok (h r hr) _ (by have := (okR_iff r).1 (h r hr); omega) y hy
theorem must_singles {l : List R} (h : mustE l = 0) (hl : sumR l ≤ 2000) : mustE (singles l) = 0 := by
  have ho := okL_of_must h
  refine must_of ?_ (singles_ok ho) (by rw [singles_sum ho.pos]; omega)
  have := singles_len ho.pos
  omega
theorem singles_snoc (l : List R) (r : R) : singles (l ++ [r]) = singles l ++ ones r r.2.toNat := by simp [singles]
end Go.Proofs.Ytjdkdogiaokhjaa
