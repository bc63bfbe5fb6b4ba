/- Runs: the plain model of the mappings (lists of pairs To, Many): no program in sight. -/
import Derived.RowKit
namespace Go.Proofs.Ytjdkdogiaokhjaa
abbrev R := Int × Int
def okR (r : R) : Bool := decide (1 ≤ r.2) && decide (r.2 ≤ 1073741824) && decide (-1 ≤ r.1) && (decide (r.1 = -1) || decide (r.1 ≤ 1073741824 - r.2))
def sumR : List R → Int
  | [] => 0
  | r :: l => r.2 + sumR l
theorem sumR_append (a b : List R) : sumR (a ++ b) = sumR a + sumR b := by
  induction a with
  | nil => simp [sumR]
  | cons x a ih => simp [sumR, ih]; omega
/-- what 'must' finds wrong: 0, nothing -/
def mustE (l : List R) : Int := if 2000 < l.length then 2 else if l.all okR = false then 1 else if 1073741824 < sumR l then 1 else 0
theorem okR_iff (r : R) : okR r = true ↔ 1 ≤ r.2 ∧ r.2 ≤ 1073741824 ∧ -1 ≤ r.1 ∧ (r.1 = -1 ∨ r.1 ≤ 1073741824 - r.2) := by
  simp [okR, and_assoc]
/-- all 'Many' from 0 to a bound -/
def Smalls (m : Int) (l : List R) : Prop := ∀ r ∈ l, 0 ≤ r.2 ∧ r.2 ≤ m
theorem sumR_bd {m : Int} {l : List R} (h : Smalls m l) : 0 ≤ sumR l ∧ sumR l ≤ m * l.length := by
  induction l with
  | nil => simp [sumR]
  | cons x l ih =>
    have h1 := h x (by simp)
    have h2 := ih (fun r hr => h r (by simp [hr]))
    simp only [sumR, List.length_cons]
    have : m * ((l.length + 1 : Nat) : Int) = m * l.length + m := by rw [Int.natCast_add, Int.mul_add]; simp
    omega
theorem sumR_take_succ (l : List R) (k : Nat) (h : k < l.length) : sumR (l.take (k + 1)) = sumR (l.take k) + l[k].2 := by
  rw [List.take_succ_eq_append_getElem h, sumR_append]; simp [sumR]
theorem smalls_take {m : Int} {l : List R} (h : Smalls m l) (k : Nat) : Smalls m (l.take k) := fun r hr => h r (List.mem_of_mem_take hr)
theorem smalls_of_ok {l : List R} (h : l.all okR = true) : Smalls 1073741824 l := fun r hr => by
  have := (okR_iff r).1 (List.all_eq_true.1 h r hr)
  omega
theorem all_take_succ (l : List R) (k : Nat) (h : k < l.length) : (l.take (k + 1)).all okR = ((l.take k).all okR && okR l[k]) := by
  rw [List.take_succ_eq_append_getElem h, List.all_append]; simp
theorem all_false_of (l : List R) (k : Nat) (h : k < l.length) (hk : okR l[k] = false) : l.all okR = false := by
  rw [List.all_eq_false]; exact ⟨l[k], List.getElem_mem h, by simp [hk]⟩
/-- one run behind a list in normal form: as the program's 'add' does -/
def glue (x r : R) : Bool := (decide (r.1 = -1) && decide (x.1 = -1)) || (decide (r.1 ≠ -1) && decide (x.1 ≠ -1) && decide (r.1 = x.1 + x.2))
def addR (out : List R) (r : R) : List R :=
  if r.2 = 0 then out else
  match out.getLast? with
  | none => [r]
  | some x => if glue x r then out.dropLast ++ [(x.1, x.2 + r.2)] else out ++ [r]
def addAll (out : List R) (l : List R) : List R := l.foldl addR out
def norm (l : List R) : List R := addAll [] l
/-- numbers with which nothing overflows -/
def Fine (l : List R) : Prop := (∀ r ∈ l, -1 ≤ r.1 ∧ r.1 ≤ 1099511627776 ∧ 0 ≤ r.2) ∧ sumR l ≤ 1099511627776
theorem sumR_nonneg {l : List R} (h : ∀ r ∈ l, 0 ≤ r.2) : 0 ≤ sumR l := by
  induction l with
  | nil => simp [sumR]
  | cons x l ih =>
    have := h x (by simp)
    have := ih (fun r hr => h r (by simp [hr]))
    simp only [sumR]; omega
theorem sumR_mem {l : List R} (h : ∀ r ∈ l, 0 ≤ r.2) : ∀ r ∈ l, r.2 ≤ sumR l := by
  induction l with
  | nil => simp
  | cons x l ih =>
    intro r hr
    have hx := h x (by simp)
    have hl := sumR_nonneg (l := l) (fun r hr => h r (by simp [hr]))
    simp only [sumR]
    rcases List.mem_cons.1 hr with rfl | hr
    · omega
    · have := ih (fun r hr => h r (by simp [hr])) r hr
      omega
theorem Fine.small {l : List R} (h : Fine l) : Smalls 1099511627776 l := fun r hr => by
  have := h.1 r hr
  have := sumR_mem (fun r hr => (h.1 r hr).2.2) r hr
  have := h.2
  omega
theorem addR_zero (out : List R) (r : R) (h : r.2 = 0) : addR out r = out := by simp [addR, h]
theorem addR_nil (r : R) (h : r.2 ≠ 0) : addR [] r = [r] := by simp [addR, h]
theorem addR_snoc (l : List R) (x r : R) (h : r.2 ≠ 0) : addR (l ++ [x]) r = if glue x r then l ++ [(x.1, x.2 + r.2)] else l ++ [x] ++ [r] := by
  simp [addR, h]
theorem addR_sum (out : List R) (r : R) : sumR (addR out r) = sumR out + r.2 := by
  rcases List.eq_nil_or_concat out with rfl | ⟨l, x, rfl⟩
  · by_cases h : r.2 = 0 <;> simp [addR, h, sumR]
  · rw [List.concat_eq_append]
    by_cases h : r.2 = 0
    · simp [addR_zero _ _ h, h]
    · rw [addR_snoc _ _ _ h]
      split <;> simp [sumR_append, sumR] <;> omega
theorem addR_len (out : List R) (r : R) : (addR out r).length ≤ out.length + 1 := by
  rcases List.eq_nil_or_concat out with rfl | ⟨l, x, rfl⟩
  · by_cases h : r.2 = 0 <;> simp [addR, h]
  · rw [List.concat_eq_append]
    by_cases h : r.2 = 0
    · simp [addR_zero _ _ h]
    · rw [addR_snoc _ _ _ h]
      split <;> simp
theorem addR_fine {out : List R} {r : R} (h : Fine out) (hr : -1 ≤ r.1 ∧ r.1 ≤ 1099511627776 ∧ 0 ≤ r.2) (hs : sumR out + r.2 ≤ 1099511627776) : Fine (addR out r) := by
  refine ⟨?_, by rw [addR_sum]; exact hs⟩
  rcases List.eq_nil_or_concat out with rfl | ⟨l, x, rfl⟩
  · by_cases h0 : r.2 = 0
    · simp [addR, h0]
    · simp [addR, h0]; omega
  · rw [List.concat_eq_append] at *
    by_cases h0 : r.2 = 0
    · rw [addR_zero _ _ h0]; exact h.1
    · rw [addR_snoc _ _ _ h0]
      have hx := h.1 x (by simp)
      intro y hy
      split at hy
      · simp only [List.mem_append, List.mem_singleton] at hy
        rcases hy with hy | rfl
        · exact h.1 y (by simp [hy])
        · exact ⟨hx.1, hx.2.1, by simp only; omega⟩
      · simp only [List.mem_append, List.mem_singleton] at hy
        rcases hy with (hy | rfl) | rfl
        · exact h.1 y (by simp [hy])
        · exact hx
        · exact hr
theorem addAll_sum (l : List R) : ∀ out, sumR (addAll out l) = sumR out + sumR l := by
  induction l with
  | nil => intro out; simp [addAll, sumR]
  | cons r l ih =>
    intro out
    have := ih (addR out r)
    simp only [addAll, List.foldl_cons] at this ⊢
    rw [this, addR_sum]; simp only [sumR]; omega
theorem addAll_len (l : List R) : ∀ out, (addAll out l).length ≤ out.length + l.length := by
  induction l with
  | nil => intro out; simp [addAll]
  | cons r l ih =>
    intro out
    have := ih (addR out r)
    have := addR_len out r
    simp only [addAll, List.foldl_cons, List.length_cons] at *
    omega
theorem addAll_fine (l : List R) : ∀ out, Fine out → (∀ r ∈ l, -1 ≤ r.1 ∧ r.1 ≤ 1099511627776 ∧ 0 ≤ r.2) → sumR out + sumR l ≤ 1099511627776 → Fine (addAll out l) := by
  induction l with
  | nil => intro out h _ _; simpa [addAll] using h
  | cons r l ih =>
    intro out h hl hs
    have hr := hl r (by simp)
    have h2 := sumR_nonneg (l := l) (fun r hr => (hl r (by simp [hr])).2.2)
    simp only [sumR] at hs
    have := ih (addR out r) (addR_fine h hr (by omega)) (fun r hr => hl r (by simp [hr])) (by rw [addR_sum]; omega)
    simpa [addAll] using this
theorem addAll_append (a b out : List R) : addAll out (a ++ b) = addAll (addAll out a) b := by simp [addAll]
theorem addAll_snoc (a : List R) (r : R) (out : List R) : addAll out (a ++ [r]) = addR (addAll out a) r := by simp [addAll]
/-- what of one run, that begins at page 'at', lies in the pages from 'fr' to 'to' -/
def clip1 (fr to pos : Int) (r : R) : List R :=
  if min to (pos + r.2) ≤ max fr pos then [] else [(if r.1 = -1 then r.1 else r.1 + (max fr pos - pos), min to (pos + r.2) - max fr pos)]
def clips (fr to : Int) : Int → List R → List R
  | _, [] => []
  | pos, r :: l => clip1 fr to pos r ++ clips fr to (pos + r.2) l
def partR (l : List R) (fr to : Int) : List R := norm (clips fr to 0 l)
theorem clips_append (fr to : Int) (a b : List R) : ∀ pos, clips fr to pos (a ++ b) = clips fr to pos a ++ clips fr to (pos + sumR a) b := by
  induction a with
  | nil => intro pos; simp [clips, sumR]
  | cons r a ih =>
    intro pos
    simp only [List.cons_append, clips, sumR, ih, List.append_assoc]
    congr 3; omega
theorem clips_take_succ (fr to : Int) (l : List R) (k : Nat) (h : k < l.length) : clips fr to 0 (l.take (k + 1)) = clips fr to 0 (l.take k) ++ clip1 fr to (sumR (l.take k)) l[k] := by
  rw [List.take_succ_eq_append_getElem h, clips_append]; simp [clips]
theorem clip1_mem {fr to pos : Int} {r x : R} (h : x ∈ clip1 fr to pos r) (hr : -1 ≤ r.1 ∧ 0 ≤ r.2) : -1 ≤ x.1 ∧ x.1 ≤ max r.1 (r.1 + r.2) ∧ 0 < x.2 ∧ x.2 ≤ r.2 := by
  unfold clip1 at h
  split at h
  · simp at h
  · simp only [List.mem_singleton] at h
    subst h
    simp only
    split <;> omega
theorem clip1_sum (fr to pos : Int) (r : R) (hr : 0 ≤ r.2) : sumR (clip1 fr to pos r) ≤ r.2 ∧ 0 ≤ sumR (clip1 fr to pos r) := by
  unfold clip1
  split
  · simp [sumR]; omega
  · simp only [sumR]; omega
theorem clip1_len (fr to pos : Int) (r : R) : (clip1 fr to pos r).length ≤ 1 := by
  unfold clip1; split <;> simp
theorem clips_mem {fr to : Int} {l : List R} {M : Int} (hl : ∀ r ∈ l, -1 ≤ r.1 ∧ r.1 ≤ M ∧ 0 ≤ r.2) : ∀ pos, ∀ x ∈ clips fr to pos l, ∃ r ∈ l, -1 ≤ x.1 ∧ x.1 ≤ M + r.2 ∧ 0 < x.2 ∧ x.2 ≤ r.2 := by
  induction l with
  | nil => intro pos x hx; simp [clips] at hx
  | cons r l ih =>
    intro pos x hx
    simp only [clips, List.mem_append] at hx
    rcases hx with hx | hx
    · have h := hl r (by simp)
      have := clip1_mem hx ⟨h.1, h.2.2⟩
      exact ⟨r, by simp, this.1, by omega, this.2.2⟩
    · obtain ⟨y, hy, h⟩ := ih (fun r hr => hl r (by simp [hr])) _ x hx
      exact ⟨y, by simp [hy], h⟩
theorem clips_sum {fr to : Int} {l : List R} (hl : ∀ r ∈ l, 0 ≤ r.2) : ∀ pos, sumR (clips fr to pos l) ≤ sumR l ∧ 0 ≤ sumR (clips fr to pos l) := by
  induction l with
  | nil => intro pos; simp [clips, sumR]
  | cons r l ih =>
    intro pos
    have h1 := clip1_sum fr to pos r (hl r (by simp))
    have h2 := ih (fun r hr => hl r (by simp [hr])) (pos + r.2)
    simp only [clips, sumR_append, sumR]; omega
theorem clips_len (fr to : Int) (l : List R) : ∀ pos, (clips fr to pos l).length ≤ l.length := by
  induction l with
  | nil => intro pos; simp [clips]
  | cons r l ih =>
    intro pos
    have := clip1_len fr to pos r
    have := ih (pos + r.2)
    simp only [clips, List.length_append, List.length_cons]; omega
/-- numbers of a valid mapping, and somewhat more -/
def Mild (l : List R) : Prop := (∀ r ∈ l, -1 ≤ r.1 ∧ r.1 ≤ 8589934592 ∧ 0 ≤ r.2) ∧ sumR l ≤ 8589934592
theorem Mild.fine {l : List R} (h : Mild l) : Fine l := ⟨fun r hr => by have := h.1 r hr; omega, by have := h.2; omega⟩
theorem Mild.clips_fine {l : List R} (h : Mild l) (fr to pos : Int) : (∀ r ∈ clips fr to pos l, -1 ≤ r.1 ∧ r.1 ≤ 1099511627776 ∧ 0 ≤ r.2) ∧ sumR (clips fr to pos l) ≤ 8589934592 := by
  have h0 : ∀ r ∈ l, 0 ≤ r.2 := fun r hr => (h.1 r hr).2.2
  refine ⟨fun x hx => ?_, by have := clips_sum (fr := fr) (to := to) h0 pos; have := h.2; omega⟩
  obtain ⟨r, hr, h1, h2, h3, h4⟩ := clips_mem h.1 pos x hx
  have := sumR_mem h0 r hr
  have := h.2
  omega
theorem Mild.norm_clips {l : List R} (h : Mild l) (fr to pos : Int) (hl : l.length ≤ 1048576) : Fine (norm (clips fr to pos l)) ∧ (norm (clips fr to pos l)).length ≤ 1048576 := by
  have h1 := h.clips_fine fr to pos
  refine ⟨addAll_fine _ [] ⟨by simp, by simp [sumR]⟩ h1.1 (by simp [sumR]; omega), ?_⟩
  have := addAll_len (clips fr to pos l) []
  have := clips_len fr to l pos
  simp only [norm, List.length_nil] at *; omega
theorem Mild.take {l : List R} (h : Mild l) (k : Nat) : Mild (l.take k) := by
  have h0 : ∀ r ∈ l, 0 ≤ r.2 := fun r hr => (h.1 r hr).2.2
  refine ⟨fun r hr => h.1 r (List.mem_of_mem_take hr), ?_⟩
  have e : sumR l = sumR (l.take k) + sumR (l.drop k) := by rw [← sumR_append, List.take_append_drop]
  have := sumR_nonneg (l := l.drop k) (fun r hr => h0 r (List.mem_of_mem_drop hr))
  have := h.2
  omega
def fitsE (l : List R) : Int := if l.length ≤ 2000 ∧ sumR l ≤ 1073741824 then 0 else 2
theorem mustE_zero {l : List R} (h : mustE l = 0) : l.length ≤ 2000 ∧ l.all okR = true ∧ sumR l ≤ 1073741824 := by
  unfold mustE at h
  split at h
  · simp at h
  · split at h
    · simp at h
    · split at h
      · simp at h
      · rename_i h1 h2 h3
        exact ⟨by omega, by simpa using h2, by omega⟩
theorem mild_of_must {l : List R} (h : mustE l = 0) : Mild l := by
  obtain ⟨_, h2, h3⟩ := mustE_zero h
  refine ⟨fun r hr => ?_, by omega⟩
  have := (okR_iff r).1 (List.all_eq_true.1 h2 r hr)
  omega
theorem pages_nonneg {l : List R} (h : mustE l = 0) : 0 ≤ sumR l := sumR_nonneg (fun r hr => ((mild_of_must h).1 r hr).2.2)
theorem partR_sum {l : List R} (h : Mild l) (fr to : Int) : sumR (partR l fr to) ≤ sumR l ∧ 0 ≤ sumR (partR l fr to) := by
  have := clips_sum (fr := fr) (to := to) (l := l) (fun r hr => (h.1 r hr).2.2) 0
  simp only [partR, norm, addAll_sum, sumR] at *; omega
theorem partR_len (l : List R) (fr to : Int) : (partR l fr to).length ≤ l.length := by
  have := addAll_len (clips fr to 0 l) []
  have := clips_len fr to l 0
  simp only [partR, norm, List.length_nil] at *; omega
/-- runs whose numbers lie between -1, 0 and a bound -/
def Nums (m : Int) (l : List R) : Prop := ∀ r ∈ l, -1 ≤ r.1 ∧ r.1 ≤ m ∧ 0 ≤ r.2
theorem Nums.append {m : Int} {a b : List R} (h : Nums m a) (k : Nums m b) : Nums m (a ++ b) := fun r hr => by
  rcases List.mem_append.1 hr with hr | hr
  · exact h r hr
  · exact k r hr
theorem Nums.one_ {m : Int} {l : List R} {r : R} (h : Nums m l) (hr : -1 ≤ r.1 ∧ r.1 ≤ m ∧ 0 ≤ r.2) : Nums m (addR l r) := by
  rcases List.eq_nil_or_concat l with rfl | ⟨l, x, rfl⟩
  · by_cases h0 : r.2 = 0
    · rw [addR_zero _ _ h0]; exact h
    · rw [addR_nil _ h0]; intro y hy; simp at hy; subst hy; exact hr
  · rw [List.concat_eq_append] at *
    by_cases h0 : r.2 = 0
    · rw [addR_zero _ _ h0]; exact h
    · rw [addR_snoc _ _ _ h0]
      have hx := h x (by simp)
      have hl : Nums m l := fun y hy => h y (by simp [hy])
      split
      · refine hl.append fun y hy => ?_
        simp at hy; subst hy; exact ⟨hx.1, hx.2.1, by simp only; omega⟩
      · refine h.append fun y hy => ?_
        simp at hy; subst hy; exact hr
theorem Nums.many_ {m : Int} (l : List R) : ∀ out, Nums m out → Nums m l → Nums m (addAll out l) := by
  induction l with
  | nil => intro out h _; simpa [addAll] using h
  | cons r l ih =>
    intro out h hl
    have := ih (addR out r) (h.one_ (hl r (by simp))) (fun y hy => hl y (by simp [hy]))
    simpa [addAll] using this
theorem Nums.norm_ {m : Int} {l : List R} (h : Nums m l) : Nums m (norm l) := Nums.many_ l [] (fun r hr => by simp at hr) h
theorem Nums.part_ {l : List R} (h : Mild l) (fr to : Int) : Nums 17179869184 (partR l fr to) := by
  refine Nums.norm_ fun x hx => ?_
  obtain ⟨r, hr, h1, h2, h3, h4⟩ := clips_mem h.1 0 x hx
  have := sumR_mem (fun r hr => (h.1 r hr).2.2) r hr
  have := h.2
  omega
theorem Nums.of_mild {l : List R} (h : Mild l) : Nums 17179869184 l := fun r hr => by have := h.1 r hr; omega
theorem Nums.fine {l : List R} (h : Nums 17179869184 l) (hs : sumR l ≤ 1099511627776) : Fine l := ⟨fun r hr => by have := h r hr; omega, hs⟩
theorem norm_sum (l : List R) : sumR (norm l) = sumR l := by simp [norm, addAll_sum, sumR]
theorem norm_len (l : List R) : (norm l).length ≤ l.length := by have := addAll_len l []; simpa [norm] using this
end Go.Proofs.Ytjdkdogiaokhjaa
