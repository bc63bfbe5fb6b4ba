/- Runs: plain laws: a mapping by its single pages. -/
import Derived.Test.YtjdkdogiaokhjaaSi
import Derived.Test.YtjdkdogiaokhjaaSj
namespace Go.Proofs.Ytjdkdogiaokhjaa
set_option linter.unusedSimpArgs false
set_option linter.unusedVariables false

def Wk (l : List R) : Prop := ∀ r ∈ l, -1 ≤ r.1 ∧ 0 ≤ r.2
theorem Wk.append {a b : List R} (h : Wk a) (k : Wk b) : Wk (a ++ b) := fun r hr => by
  rcases List.mem_append.1 hr with hr | hr
  · exact h r hr
  · exact k r hr
theorem OkL.wk {l : List R} (h : OkL l) : Wk l := fun r hr => by have := (okR_iff r).1 (h r hr); omega
theorem Wk.pos {l : List R} (h : Wk l) : Pos0 l := fun r hr => (h r hr).2
abbrev pg (l : List R) : List R := singles l
theorem pg_cons (r : R) (l : List R) : pg (r :: l) = ones r r.2.toNat ++ pg l := by simp [singles]
theorem pg_append (a b : List R) : pg (a ++ b) = pg a ++ pg b := by simp [singles]
theorem pg_nil : pg [] = [] := rfl
/-- lists of single pages -/
def Ones (s : List R) : Prop := ∀ r ∈ s, r.2 = 1 ∧ -1 ≤ r.1
theorem Ones.wk {s : List R} (h : Ones s) : Wk s := fun r hr => by have := h r hr; omega
theorem Ones.append {a b : List R} (h : Ones a) (k : Ones b) : Ones (a ++ b) := fun r hr => by
  rcases List.mem_append.1 hr with hr | hr
  · exact h r hr
  · exact k r hr
theorem Ones.take {a : List R} (h : Ones a) (k : Nat) : Ones (a.take k) := fun r hr => h r (List.mem_of_mem_take hr)
theorem Ones.drop {a : List R} (h : Ones a) (k : Nat) : Ones (a.drop k) := fun r hr => h r (List.mem_of_mem_drop hr)
theorem Ones.holes (k : Nat) : Ones (List.replicate k (-1, 1)) := fun r hr => by
  have := List.eq_of_mem_replicate hr
  subst this; exact ⟨rfl, by decide⟩
theorem ones_one (r : R) (h : r.2 = 1) : ones r 1 = [r] := by
  obtain ⟨a, b⟩ := r
  simp only at h; subst h
  simp [ones]
theorem pg_ones {s : List R} (h : Ones s) : pg s = s := by
  induction s with
  | nil => rfl
  | cons r s ih =>
    have hr := h r (by simp)
    rw [pg_cons, ih (fun x hx => h x (by simp [hx])), hr.1]
    have := ones_one r hr.1
    rw [show (1 : Int).toNat = 1 from rfl, this]; rfl
theorem ones_ones (r : R) (hr : -1 ≤ r.1) (k : Nat) : Ones (ones r k) := fun x hx => by
  simp only [ones, List.mem_map, List.mem_range] at hx
  obtain ⟨i, hi, rfl⟩ := hx
  refine ⟨rfl, ?_⟩
  simp only
  split <;> omega
theorem ones_pg {l : List R} (h : Wk l) : Ones (pg l) := by
  induction l with
  | nil => exact fun r hr => by simp [singles] at hr
  | cons r l ih =>
    rw [pg_cons]
    exact (ones_ones r (h r (by simp)).1 _).append (ih fun x hx => h x (by simp [hx]))
theorem ones_add (r : R) (a b : Nat) : ones r (a + b) = ones r a ++ ones (if 0 ≤ r.1 then r.1 + a else r.1, 0) b := by
  refine List.ext_getElem (by simp [ones_len]) fun i h1 h2 => ?_
  by_cases hi : i < a
  · rw [List.getElem_append_left (by rw [ones_len]; exact hi)]; simp [ones]
  · rw [List.getElem_append_right (by rw [ones_len]; omega)]
    simp only [ones, List.getElem_map, List.getElem_range, List.length_map, List.length_range]
    by_cases h0 : 0 ≤ r.1
    · have : 0 ≤ r.1 + (a : Int) := by omega
      simp only [h0, this, if_true, Prod.mk.injEq, and_true]
      omega
    · simp [h0]
theorem ones_snd (t m m' : Int) (k : Nat) : ones (t, m) k = ones (t, m') k := rfl
theorem pg_addR {out : List R} {r : R} (ho : Wk out) (hr : -1 ≤ r.1 ∧ 0 ≤ r.2) : pg (addR out r) = pg out ++ ones r r.2.toNat := by
  by_cases h0 : r.2 = 0
  · rw [addR_zero _ _ h0, h0]; simp [ones]
  · rcases List.eq_nil_or_concat out with rfl | ⟨l, x, rfl⟩
    · rw [addR_nil _ h0, pg_cons]; simp [singles]
    · rw [List.concat_eq_append] at *
      rw [addR_snoc _ _ _ h0]
      have hx := ho x (by simp)
      split
      · rename_i hg
        rw [pg_append, pg_append, List.append_assoc]
        congr 1
        rw [pg_cons, pg_cons, pg_nil, List.append_nil, List.append_nil]
        simp only
        rw [show (x.2 + r.2).toNat = x.2.toNat + r.2.toNat by omega, ones_add]
        have e1 : ones (x.1, x.2 + r.2) x.2.toNat = ones x x.2.toNat := rfl
        rw [e1]
        congr 1
        have e2 : (if 0 ≤ x.1 then x.1 + (x.2.toNat : Int) else x.1) = r.1 := by
          simp [glue] at hg
          split <;> omega
        simp only
        rw [e2]; rfl
      · rw [pg_append, pg_cons, pg_nil, List.append_nil]
theorem wk_addR {out : List R} {r : R} (ho : Wk out) (hr : -1 ≤ r.1 ∧ 0 ≤ r.2) : Wk (addR out r) := by
  rcases List.eq_nil_or_concat out with rfl | ⟨l, x, rfl⟩
  · by_cases h0 : r.2 = 0
    · rw [addR_zero _ _ h0]; exact ho
    · rw [addR_nil _ h0]; intro y hy; simp at hy; subst hy; exact hr
  · rw [List.concat_eq_append] at *
    by_cases h0 : r.2 = 0
    · rw [addR_zero _ _ h0]; exact ho
    · rw [addR_snoc _ _ _ h0]
      have hx := ho x (by simp)
      have hl : Wk l := fun y hy => ho y (by simp [hy])
      split
      · refine hl.append fun y hy => ?_
        simp at hy; subst hy; exact ⟨hx.1, by simp only; omega⟩
      · refine ho.append fun y hy => ?_
        simp at hy; subst hy; exact hr
theorem pg_addAll (l : List R) : ∀ out, Wk out → Wk l → pg (addAll out l) = pg out ++ pg l ∧ Wk (addAll out l) := by
  induction l with
  | nil => intro out h _; exact ⟨by simp [addAll, singles], by simpa [addAll] using h⟩
  | cons r l ih =>
    intro out h hl
    have hr := hl r (by simp)
    have := ih (addR out r) (wk_addR h hr) (fun y hy => hl y (by simp [hy]))
    rw [pg_addR h hr] at this
    rw [pg_cons]
    refine ⟨?_, by simpa [addAll] using this.2⟩
    have e := this.1
    simp only [addAll, List.foldl_cons] at e ⊢
    rw [e, List.append_assoc]
theorem pg_norm {l : List R} (h : Wk l) : pg (norm l) = pg l := by
  have := (pg_addAll l [] (fun r hr => by simp at hr) h).1
  simpa [norm, singles] using this
theorem wk_norm {l : List R} (h : Wk l) : Wk (norm l) := (pg_addAll l [] (fun r hr => by simp at hr) h).2
theorem addAll_pg (l : List R) (h : Wk l) : ∀ out, addAll out (pg l) = addAll out l := by
  induction l with
  | nil => intro out; rfl
  | cons r l ih =>
    intro out
    have hr := h r (by simp)
    rw [pg_cons, addAll_append, ih (fun y hy => h y (by simp [hy]))]
    by_cases h0 : r.2 = 0
    · rw [h0]
      have : addAll out (r :: l) = addAll (addR out r) l := by simp [addAll]
      rw [this, addR_zero _ _ h0]; simp [ones, addAll]
    · obtain ⟨k, hk⟩ : ∃ k : Nat, r.2.toNat = k + 1 := ⟨r.2.toNat - 1, by omega⟩
      rw [hk, addAll_ones _ _ hr.1, show (r.1, (k : Int) + 1) = r from Prod.ext rfl (by simp only; omega)]
      simp [addAll]
/-- the normal form is that of the pages -/
theorem norm_pg {l : List R} (h : Wk l) : norm l = norm (pg l) := (addAll_pg l h []).symm
theorem norm_eq {a b : List R} (ha : Wk a) (hb : Wk b) (h : pg a = pg b) : norm a = norm b := by rw [norm_pg ha, norm_pg hb, h]
theorem pg_len {l : List R} (h : Wk l) : ((pg l).length : Int) = sumR l := singles_len h.pos
/-- a part's pages -/
theorem pg_clip1 (fr to pos : Int) (r : R) (hr : -1 ≤ r.1 ∧ 0 ≤ r.2) : pg (clip1 fr to pos r) = ((ones r r.2.toNat).take (to - pos).toNat).drop (fr - pos).toNat := by
  unfold clip1
  by_cases h : min to (pos + r.2) ≤ max fr pos
  · rw [if_pos h, pg_nil]
    symm
    apply List.drop_eq_nil_of_le
    rw [List.length_take, ones_len]
    omega
  · rw [if_neg h, pg_cons, pg_nil, List.append_nil]
    simp only
    refine List.ext_getElem (by rw [ones_len, List.length_drop, List.length_take, ones_len]; omega) fun i h1 h2 => ?_
    rw [ones_len] at h1
    rw [List.getElem_drop, List.getElem_take]
    simp only [ones, List.getElem_map, List.getElem_range, Prod.mk.injEq, and_true]
    by_cases h3 : r.1 = -1
    · simp [h3]
    · have h4 : 0 ≤ r.1 := by omega
      have h5 : 0 ≤ r.1 + (max fr pos - pos) := by omega
      simp only [h3, if_false, h4, h5, if_true]
      omega
theorem pg_clips (fr to : Int) (l : List R) (h : Wk l) : ∀ pos, pg (clips fr to pos l) = ((pg l).take (to - pos).toNat).drop (fr - pos).toNat := by
  induction l with
  | nil => intro pos; simp [clips, singles]
  | cons r l ih =>
    intro pos
    have hr := h r (by simp)
    simp only [clips]
    rw [pg_append, pg_clip1 _ _ _ _ hr, ih (fun y hy => h y (by simp [hy])), pg_cons, List.take_append, List.drop_append, ones_len, List.length_take, ones_len]
    congr 1
    rw [show (to - (pos + r.2)).toNat = (to - pos).toNat - r.2.toNat by omega]
    by_cases hc : r.2.toNat ≤ (to - pos).toNat
    · rw [Nat.min_eq_right hc, show (fr - (pos + r.2)).toNat = (fr - pos).toNat - r.2.toNat by omega]
    · rw [show (to - pos).toNat - r.2.toNat = 0 by omega]; simp
theorem wk_clips {l : List R} (h : Wk l) (fr to : Int) : ∀ pos, Wk (clips fr to pos l) := by
  induction l with
  | nil => intro pos r hr; simp [clips] at hr
  | cons r l ih =>
    intro pos
    simp only [clips]
    refine Wk.append (fun x hx => ?_) (ih (fun y hy => h y (by simp [hy])) _)
    have hr := h r (by simp)
    have := clip1_mem hx hr
    omega
theorem part_pg {l : List R} (h : Wk l) (fr to : Int) : partR l fr to = norm (((pg l).take to.toNat).drop fr.toNat) := by
  unfold partR
  rw [norm_pg (wk_clips h fr to 0), pg_clips fr to l h 0, Int.sub_zero, Int.sub_zero]
theorem wk_part {l : List R} (h : Wk l) (fr to : Int) : Wk (partR l fr to) := wk_norm (wk_clips h fr to 0)
theorem pg_part {l : List R} (h : Wk l) (fr to : Int) : pg (partR l fr to) = ((pg l).take to.toNat).drop fr.toNat := by
  unfold partR
  rw [pg_norm (wk_clips h fr to 0), pg_clips fr to l h 0, Int.sub_zero, Int.sub_zero]
theorem pg_hole (many : Int) : pg [(-1, many)] = List.replicate many.toNat (-1, 1) := by
  rw [pg_cons, pg_nil, List.append_nil]
  refine List.ext_getElem (by simp [ones_len]) fun i h1 h2 => ?_
  simp [ones]
theorem join_pg {a b : List R} (ha : Wk a) (hb : Wk b) : joinX a b = norm (pg a ++ pg b) := by
  unfold joinX
  rw [norm_pg (ha.append hb), pg_append]
theorem take_all {l : List R} (h : Wk l) : (pg l).take (sumR l).toNat = pg l := List.take_of_length_le (by have := pg_len h; omega)
theorem remove_pg {l : List R} (h : Wk l) (page many : Int) : removeX l page many = norm ((pg l).take page.toNat ++ (pg l).drop (page + many).toNat) := by
  unfold removeX
  rw [norm_pg ((wk_part h _ _).append (wk_part h _ _)), pg_append, pg_part h, pg_part h, take_all h]
  simp
theorem insert_pg {l more : List R} (h : Wk l) (h' : Wk more) (page : Int) : insertX l page more = norm ((pg l).take page.toNat ++ pg more ++ (pg l).drop page.toNat) := by
  unfold insertX
  rw [norm_pg (((wk_part h _ _).append h').append (wk_part h _ _)), pg_append, pg_append, pg_part h, pg_part h, take_all h]
  simp
theorem punch_pg {l : List R} (h : Wk l) (page many : Int) (hm : 0 ≤ many) : punchX l page many = norm ((pg l).take page.toNat ++ List.replicate many.toNat (-1, 1) ++ (pg l).drop (page + many).toNat) := by
  unfold punchX
  have hh : Wk [(-1, many)] := fun r hr => by simp at hr; subst hr; exact ⟨by show (-1 : Int) ≤ -1; omega, hm⟩
  rw [norm_pg (((wk_part h _ _).append hh).append (wk_part h _ _)), pg_append, pg_append, pg_part h, pg_part h, take_all h, pg_hole]
  simp
theorem wk_gap (l : List R) (page : Int) (more : List R) : Wk (gapR l page more) := by
  unfold gapR
  split
  · intro r hr; simp at hr; subst hr; exact ⟨by show (-1 : Int) ≤ -1; omega, by simp only; omega⟩
  · exact fun r hr => by simp at hr
theorem put_pg {l more : List R} (h : Wk l) (h' : Wk more) (page : Int) : putX l page more = norm ((pg l).take page.toNat ++ (if pg more = [] then [] else List.replicate (page.toNat - (pg l).length) (-1, 1)) ++ pg more ++ (pg l).drop (page + sumR more).toNat) := by
  unfold putX
  have hl := pg_len h
  have hl' := pg_len h'
  rw [norm_pg ((((wk_part h _ _).append (wk_gap l page more)).append h').append (wk_part h _ _)), pg_append, pg_append, pg_append, pg_part h, pg_part h, take_all h]
  have e : pg (gapR l page more) = if pg more = [] then [] else List.replicate (page.toNat - (pg l).length) (-1, 1) := by
    unfold gapR
    by_cases hz : pg more = []
    · rw [hz] at hl'; simp at hl'
      rw [if_neg (by omega), if_pos hz, pg_nil]
    · rw [if_neg hz]
      have : 0 < (pg more).length := by
        rcases Nat.eq_zero_or_pos (pg more).length with h0 | h0
        · exact absurd (List.eq_nil_of_length_eq_zero h0) hz
        · exact h0
      split
      · rw [pg_hole]; congr 1; omega
      · rename_i hc
        rw [show page.toNat - (pg l).length = 0 by omega, pg_nil]; rfl
  rw [e]
  simp
end Go.Proofs.Ytjdkdogiaokhjaa
