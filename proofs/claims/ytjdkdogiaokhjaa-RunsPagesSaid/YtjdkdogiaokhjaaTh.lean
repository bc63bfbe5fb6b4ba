/- Runs: plain laws of the bytes. -/
import Derived.Test.YtjdkdogiaokhjaaTd
namespace Go.Proofs.Ytjdkdogiaokhjaa
set_option linter.unusedSimpArgs false
set_option linter.unusedVariables false

def nx (last : Int) (r : R) : Int := if r.1 = -1 then last else r.1
def pk : Int → List R → List Int
  | _, [] => []
  | last, r :: l => packR r last ++ pk (nx last r) l
theorem packR_pos (r : R) (last : Int) : 1 ≤ (packR r last).length := by simp [packR]
theorem packGo_nil (most : Int) (bs : List Int) (n last : Int) : packGo most bs n last [] = (bs ++ [0], n) := rfl
theorem packGo_cons (most : Int) (bs : List Int) (n last : Int) (r : R) (l : List R) : packGo most bs n last (r :: l) = if most < ((bs.length + (packR r last).length + 1 : Nat) : Int) then (bs ++ [0], n) else packGo most (bs ++ packR r last) (n + r.2) (nx last r) l := rfl
theorem packGo_eq (most : Int) (l : List R) : ∀ (k : Nat) (bs : List Int) (n last : Int), k ≤ l.length → (0 < k → ((bs.length + (pk last (l.take k)).length + 1 : Nat) : Int) ≤ most) → (k < l.length → most < ((bs.length + (pk last (l.take (k + 1))).length + 1 : Nat) : Int)) →
    packGo most bs n last l = (bs ++ pk last (l.take k) ++ [0], n + sumR (l.take k)) := by
  induction l with
  | nil => intro k bs n last _ _ _; simp [packGo_nil, pk, sumR]
  | cons r l ih =>
    intro k bs n last hk h1 h2
    rw [packGo_cons]
    cases k with
    | zero =>
      have h2' := h2 (by simp)
      simp [pk] at h2'
      rw [if_pos (by omega)]
      simp [pk, sumR]
    | succ k =>
      have h1' := h1 (by omega)
      simp only [List.take_succ_cons, pk, List.length_append] at h1'
      rw [if_neg (by omega)]
      rw [ih k (bs ++ packR r last) (n + r.2) (nx last r) (by simpa using hk) (fun _ => by simp only [List.length_append]; omega) (fun hl => by
        have := h2 (by simpa using hl)
        simp only [List.take_succ_cons, pk, List.length_append] at this ⊢
        omega)]
      simp only [List.take_succ_cons, pk, sumR, Prod.mk.injEq, List.append_assoc, true_and]
      omega
theorem pk_append (a b : List R) : ∀ last, ∃ last', pk last (a ++ b) = pk last a ++ pk last' b := by
  induction a with
  | nil => intro last; exact ⟨last, by simp [pk]⟩
  | cons r a ih =>
    intro last
    obtain ⟨last', h⟩ := ih (nx last r)
    exact ⟨last', by simp [pk, h]⟩
theorem pk_mono (l : List R) (last : Int) (i j : Nat) (h : i < j) (hj : j ≤ l.length) : (pk last (l.take i)).length < (pk last (l.take j)).length := by
  have e : l.take j = l.take i ++ (l.drop i).take (j - i) := by
    rw [show l.take j = l.take (i + (j - i)) by congr 1; omega, List.take_add]
  obtain ⟨last', h'⟩ := pk_append (l.take i) ((l.drop i).take (j - i)) last
  rw [e, h', List.length_append]
  have hne : (l.drop i).take (j - i) ≠ [] := by
    intro h0
    have := congrArg List.length h0
    simp at this; omega
  cases hm : (l.drop i).take (j - i) with
  | nil => exact absurd hm hne
  | cons r t =>
    have := packR_pos r last'
    simp only [pk, List.length_append]; omega
theorem packGo_form (most : Int) (l : List R) : ∀ (bs : List Int) (n last : Int), ∃ k, k ≤ l.length ∧ (0 < k → ((bs.length + (pk last (l.take k)).length + 1 : Nat) : Int) ≤ most) ∧ (k < l.length → most < ((bs.length + (pk last (l.take (k + 1))).length + 1 : Nat) : Int)) := by
  induction l with
  | nil => intro bs n last; exact ⟨0, by simp, by simp, by simp⟩
  | cons r l ih =>
    intro bs n last
    by_cases h : most < ((bs.length + (packR r last).length + 1 : Nat) : Int)
    · exact ⟨0, by simp, by simp, fun _ => by simpa [pk] using h⟩
    · obtain ⟨k, h1, h2, h3⟩ := ih (bs ++ packR r last) n (nx last r)
      refine ⟨k + 1, by simpa using h1, fun _ => ?_, fun hl => ?_⟩
      · by_cases hk : 0 < k
        · have := h2 hk
          simp only [List.take_succ_cons, pk, List.length_append] at this ⊢
          omega
        · have : k = 0 := by omega
          subst this
          simp [pk] at h ⊢
          omega
      · have := h3 (by simpa using hl)
        simp only [List.take_succ_cons, pk, List.length_append] at this ⊢
        omega
/-! reading what was packed -/
theorem le256_low (k : Nat) : ∀ (n : Int), 0 ≤ n → n < 256 ^ k → le256 (lowB n k) = n := by
  induction k with
  | zero => intro n h0 h1; simp at h1; simp [lowB, le256]; omega
  | succ k ih =>
    intro n h0 h1
    simp only [lowB, le256]
    rw [ih (n / 256) (by omega) (by rw [Int.pow_succ] at h1; omega)]
    omega
theorem wid_lt (f : Nat) : ∀ (m : Int), 0 ≤ m → m < 256 ^ f → m < 256 ^ (wid f m).toNat := by
  induction f with
  | zero => intro m h0 h1; simpa [wid] using h1
  | succ f ih =>
    intro m h0 h1
    simp only [wid]
    by_cases hm : m ≤ 0
    · rw [if_pos hm]; simp; omega
    · rw [if_neg hm]
      have hw := wid_bd f (m / 256)
      have h2 := ih (m / 256) (by omega) (by rw [Int.pow_succ] at h1; omega)
      rw [show (1 + wid f (m / 256)).toNat = (wid f (m / 256)).toNat + 1 by omega, Int.pow_succ]
      omega
theorem uW_lt {n : Int} (h0 : 0 ≤ n) (h1 : n ≤ 1073741824) : n < 256 ^ (uW n).toNat ∧ 1 ≤ uW n ∧ uW n ≤ 4 := by
  have hw := wid_bd 8 (n / 256)
  have h2 := wid_lt 8 (n / 256) (by omega) (by omega)
  have h3 := wid_le 8 (n / 256) 3 (by omega)
  unfold uW
  refine ⟨?_, by omega, by omega⟩
  rw [show (1 + wid 8 (n / 256)).toNat = (wid 8 (n / 256)).toNat + 1 by omega, Int.pow_succ]
  omega
theorem sgn_low {d : Int} (h0 : -2147483648 ≤ d) (h1 : d < 2147483648) : sgn (sW d).toNat (le256 (lowB d (sW d).toNat)) = d ∧ 1 ≤ sW d ∧ sW d ≤ 4 := by
  unfold sW
  split
  · refine ⟨?_, by omega, by omega⟩
    simp only [show (1 : Int).toNat = 1 from rfl, lowB, le256, sgn]
    split <;> omega
  · split
    · refine ⟨?_, by omega, by omega⟩
      simp only [show (2 : Int).toNat = 2 from rfl, lowB, le256, sgn]
      split <;> omega
    · split
      · refine ⟨?_, by omega, by omega⟩
        simp only [show (3 : Int).toNat = 3 from rfl, lowB, le256, sgn]
        split <;> omega
      · rw [if_pos ⟨h0, h1⟩]
        refine ⟨?_, by omega, by omega⟩
        simp only [show (4 : Int).toNat = 4 from rfl, lowB, le256, sgn]
        split <;> omega
theorem unp_step (f : Nat) (r : R) (last : Int) (rest : List Int) (out : List R) (hr : okR r = true) (hl0 : 0 ≤ last) (hl1 : last ≤ 1073741824) (ho : out.length < 2000) :
    unp (f + 1) (packR r last ++ rest) last out = unp f rest (nx last r) (out ++ [r]) := by
  have hok := (okR_iff r).1 hr
  obtain ⟨u1, u2, u3⟩ := uW_lt (n := r.2) (by omega) (by omega)
  obtain ⟨W, hW⟩ : ∃ W : Nat, uW r.2 = W := ⟨(uW r.2).toNat, by omega⟩
  have hWt : (uW r.2).toNat = W := by omega
  have hlw := le256_low W r.2 (by omega) (by rw [← hWt]; exact u1)
  have hlen := lowB_len r.2 W
  by_cases h1 : r.1 = -1
  · have hh : hR r last = 0 := if_pos h1
    simp only [packR, hh, hW, List.cons_append]
    rw [show ((0 : Int)).toNat = 0 from rfl, show lowB (r.1 - last) 0 = [] from rfl, List.append_nil, show (W : Int).toNat = W from rfl]
    simp only [unp]
    have e1 : (16 * (0 : Int) + W) % 16 = W := by omega
    have e2 : (16 * (0 : Int) + W) / 16 = 0 := by omega
    rw [e1, e2, show (W : Int).toNat = W from rfl, if_neg (by omega), if_neg (by omega), if_neg (by simp [hlen]), if_pos rfl, List.take_left' hlen, List.drop_left' hlen, hlw]
    rw [show nx last r = last from if_pos h1, show ((-1 : Int), r.2) = r from Prod.ext h1.symm rfl]
  · have hto : 0 ≤ r.1 ∧ r.1 ≤ 1073741824 := by omega
    obtain ⟨s1, s2, s3⟩ := sgn_low (d := r.1 - last) (by omega) (by omega)
    have hh : hR r last = sW (r.1 - last) := if_neg h1
    obtain ⟨H, hH⟩ : ∃ H : Nat, sW (r.1 - last) = H := ⟨(sW (r.1 - last)).toNat, by omega⟩
    rw [hH, show (H : Int).toNat = H from rfl] at s1
    have hlen2 := lowB_len (r.1 - last) H
    simp only [packR, hh, hW, hH, List.cons_append]
    rw [show (W : Int).toNat = W from rfl, show (H : Int).toNat = H from rfl]
    simp only [unp]
    have e1 : (16 * (H : Int) + W) % 16 = W := by omega
    have e2 : (16 * (H : Int) + W) / 16 = H := by omega
    rw [e1, e2, show (W : Int).toNat = W from rfl, show (H : Int).toNat = H from rfl, List.append_assoc, if_neg (by omega), if_neg (by omega), if_neg (by simp [hlen]), if_neg (by omega), List.take_left' hlen, List.drop_left' hlen, if_neg (by simp [hlen2]),
      List.take_left' hlen2, List.drop_left' hlen2, hlw, s1, if_neg (by omega)]
    rw [show nx last r = r.1 from if_neg h1, show last + (r.1 - last) = r.1 by omega]
theorem unp_all (t : List R) : ∀ (f : Nat) (last : Int) (rest : List Int) (out : List R), t.length < f → OkL t → 0 ≤ last → last ≤ 1073741824 → out.length + t.length ≤ 2000 →
    unp f (pk last t ++ 0 :: rest) last out = some (out ++ t, rest) := by
  induction t with
  | nil =>
    intro f last rest out hf _ _ _ _
    obtain ⟨f, rfl⟩ : ∃ g, f = g + 1 := ⟨f - 1, by simp at hf; omega⟩
    simp [pk, unp]
  | cons r t ih =>
    intro f last rest out hf ho h0 h1 hl
    obtain ⟨f, rfl⟩ : ∃ g, f = g + 1 := ⟨f - 1, by simp at hf; omega⟩
    have hr := ho r (by simp)
    have hok := (okR_iff r).1 hr
    simp only [List.length_cons] at hl hf
    simp only [pk, List.append_assoc]
    rw [unp_step f r last _ out hr h0 h1 (by omega)]
    have hn : 0 ≤ nx last r ∧ nx last r ≤ 1073741824 := by unfold nx; split <;> omega
    rw [ih f (nx last r) rest (out ++ [r]) (by omega) (fun y hy => ho y (by simp [hy])) hn.1 hn.2 (by simp; omega)]
    simp
theorem pk_len (t : List R) : ∀ last, t.length ≤ (pk last t).length := by
  induction t with
  | nil => intro last; simp
  | cons r t ih =>
    intro last
    have := ih (nx last r)
    have := packR_pos r last
    simp only [pk, List.length_append, List.length_cons]; omega
theorem nf_take {l : List R} (h : NF l) : ∀ k, NF (l.take k) := by
  induction h with
  | nil => intro k; simp; exact .nil
  | one r h =>
    intro k
    cases k with
    | zero => simp; exact .nil
    | succ k => simp; exact .one r h
  | snoc l x r h hr hg ih =>
    intro k
    by_cases hk : k ≤ (l ++ [x]).length
    · rw [List.take_append_of_le_length hk]; exact ih k
    · rw [List.take_of_length_le (by simp at hk ⊢; omega)]
      exact .snoc l x r h hr hg
/-- what Pack gives, read again -/
theorem unpack_pack {t : List R} (hm : mustE t = 0) (hn : norm t = t) : unpackR (pk 0 t ++ [0]) = ((0 : Int), t, (((pk 0 t).length + 1 : Nat) : Int)) := by
  obtain ⟨h1, _, _⟩ := mustE_zero hm
  unfold unpackR
  have hl := pk_len t 0
  have hu : unp ((pk 0 t ++ [0]).length + 1) (pk 0 t ++ [0]) 0 [] = some ([] ++ t, []) := unp_all t ((pk 0 t ++ [0]).length + 1) 0 [] [] (by simp; omega) (okL_of_must hm) (by omega) (by omega) (by simpa using h1)
  rw [hu]
  simp only [List.nil_append]
  rw [if_neg (by simp [hm, hn])]
  have hp := packGo_eq ((pk 0 t ++ [0]).length : Nat) t t.length [] 0 0 (Nat.le_refl _) (fun _ => by simp) (fun h => by omega)
  rw [List.take_length] at hp
  rw [hp]
  simp
  exact (List.take_of_length_le (by simp)).symm
/-- what RunsBytes asks of Unpack -/
theorem unpack_fact {b : List Int} {m : List R} {used : Int} (h : unpackR b = (0, m, used)) (hb : b.length ≤ 300) :
    mustE m = 0 ∧ norm m = m ∧ 1 ≤ used ∧ used ≤ b.length ∧ ∃ n, packGo used [] 0 0 m = (b.take used.toNat, n) ∧ used = ((b.take used.toNat).length : Int) := by
  unfold unpackR at h
  split at h
  · simp at h
  · rename_i out rest hu
    split at h
    · simp at h
    · rename_i h1
      split at h
      · simp at h
      · rename_i h2
        simp only [Prod.mk.injEq, true_and] at h
        obtain ⟨rfl, h3⟩ := h
        have hm : mustE out = 0 := Classical.byContradiction fun hn => h1 (.inl hn)
        have hn : norm out = out := Classical.byContradiction fun hn => h1 (.inr hn)
        have h2' : (packGo b.length [] 0 0 out).1 = b.take (b.length - rest.length) := Classical.byContradiction fun hn => h2 hn
        obtain ⟨k, k1, k2, k3⟩ := packGo_form b.length out [] 0 0
        have hp := packGo_eq b.length out k [] 0 0 k1 k2 k3
        rw [hp] at h2' h3
        simp only [List.nil_append] at h2' h3 k2 k3
        have hl := congrArg List.length h2'
        rw [List.length_take] at hl
        simp only [List.length_append, List.length_cons, List.length_nil] at hl h3
        have hu1 : used.toNat = b.length - rest.length := by omega
        refine ⟨hm, hn, by omega, by omega, sumR (out.take k), ?_, ?_⟩
        · have hp2 := packGo_eq used out k [] 0 0 k1 (fun hk => by have := k2 hk; simp only [List.nil_append, List.length_nil] at this ⊢; omega) (fun hk => by
            have h5 := pk_mono out 0 k (k + 1) (by omega) hk
            simp only [List.length_nil]; omega)
          rw [hp2, hu1, ← h2']
          simp
        · rw [hu1, ← h2']; simp; omega
structure BF (l : List R) (most : Int) : Prop where
  go : ∃ (x : List Int) (pages : Int) (t : List R), packGo most [] 0 0 (norm l) = (x, pages) ∧ (x.length : Int) ≤ most ∧ 1 ≤ x.length ∧ x.length ≤ 100000 ∧ unpackR x = ((0 : Int), t, (x.length : Int)) ∧ (0 ≤ pages ∧ pages ≤ sumR l) ∧ partR l 0 pages = t ∧ t.length ≤ 60 ∧
    packGo x.length [] 0 0 (norm l) = (x, pages) ∧ (x.length = 1 → pages = 0) ∧ (1 < x.length → ∃ y less, packGo ((x.length : Int) - 1) [] 0 0 (norm l) = (y, less) ∧ less < pages ∧ 0 ≤ less)
theorem sumR_take_lt {l : List R} (h : ∀ r ∈ l, 1 ≤ r.2) (i j : Nat) (hij : i < j) (hj : j ≤ l.length) : sumR (l.take i) < sumR (l.take j) := by
  have e : l.take j = l.take i ++ (l.drop i).take (j - i) := by
    rw [show l.take j = l.take (i + (j - i)) by congr 1; omega, List.take_add]
  rw [e, sumR_append]
  cases hm : (l.drop i).take (j - i) with
  | nil => have := congrArg List.length hm; simp at this; omega
  | cons r t =>
    have hr : r ∈ l := List.mem_of_mem_drop (List.mem_of_mem_take (hm ▸ List.mem_cons_self ..))
    have ht : ∀ y ∈ t, 0 ≤ y.2 := fun y hy => by
      have : y ∈ l := List.mem_of_mem_drop (List.mem_of_mem_take (hm ▸ List.mem_cons_of_mem _ hy))
      have := h y this; omega
    have h1 := h r hr
    have h2 := sumR_nonneg ht
    simp only [sumR]; omega
theorem packGo_len_bd {l : List R} (hl : l.length ≤ 60) (most n last : Int) : (packGo most [] n last l).1.length ≤ 100000 := by
  have := packGo_len' most [] n last l
  simp at this
  omega
theorem bytes_fact {l : List R} {most : Int} (h : mustE l = 0) (hl : l.length ≤ 60) (h1 : 1 ≤ most) : BF l most := by
  have hw := (okL_of_must h).wk
  have hmn := must_norm h
  have hok := okL_of_must hmn
  have hnn := norm_norm (okL_of_must h).pos
  have hnf := (nf_norm (okL_of_must h).pos).1
  have hln := norm_len l
  have hone : ∀ r ∈ norm l, 1 ≤ r.2 := fun r hr => by have := (okR_iff r).1 (hok r hr); omega
  obtain ⟨k, k1, k2, k3⟩ := packGo_form most (norm l) [] 0 0
  have hp := packGo_eq most (norm l) k [] 0 0 k1 k2 k3
  simp only [List.nil_append, List.length_nil, Int.zero_add] at hp k2 k3
  have hbd := packGo_len_bd (l := norm l) (by omega) most 0 0
  rw [hp] at hbd
  have hmt : mustE ((norm l).take k) = 0 := by
    obtain ⟨a1, a2, a3⟩ := mustE_zero hmn
    refine must_of (by simp; omega) (hok.take k) ?_
    have := sumR_take_le (fun r hr => by have := hone r hr; omega) (l := norm l) k
    omega
  have hnt : norm ((norm l).take k) = (norm l).take k := addAll_of_nf (nf_take hnf k)
  have hsum := sumR_take_le (fun r hr => by have := hone r hr; omega) (l := norm l) k
  rw [norm_sum] at hsum
  have hs0 := pages_nonneg hmt
  have hx : ((pk 0 ((norm l).take k) ++ [0]).length : Int) ≤ most := by
    by_cases hk : 0 < k
    · have := k2 hk; simp; omega
    · have : k = 0 := by omega
      subst this; simp [pk]; omega
  refine ⟨pk 0 ((norm l).take k) ++ [0], sumR ((norm l).take k), (norm l).take k, hp, hx, by simp, by simpa using hbd, ?_, ⟨hs0, hsum⟩, ?_, by simp; omega, ?_, ?_, ?_⟩
  · rw [unpack_pack hmt hnt]; simp
  · have hpl := pg_len (wk_norm hw)
    have hpg := pg_norm hw
    have hsplit : pg (norm l) = pg ((norm l).take k) ++ pg ((norm l).drop k) := by rw [← pg_append, List.take_append_drop]
    have hpt := pg_len (hok.take k).wk
    rw [part_pg hw, ← hpg, hsplit, List.take_left' (by omega)]
    simp only [Int.toNat_zero, List.drop_zero]
    rw [← norm_pg (hok.take k).wk, hnt]
  · have := packGo_eq ((pk 0 ((norm l).take k) ++ [0]).length : Nat) (norm l) k [] 0 0 k1 (fun _ => by simp) (fun hk => by
      have h5 := pk_mono (norm l) 0 k (k + 1) (by omega) hk
      simp; omega)
    simp only [List.nil_append, Int.zero_add] at this
    exact this
  · intro h6
    simp at h6
    have := pk_len ((norm l).take k) 0
    rw [h6] at this
    have : (norm l).take k = [] := List.eq_nil_of_length_eq_zero (by simp only [List.length_nil] at this; omega)
    rw [this]; rfl
  · intro h6
    obtain ⟨k', j1, j2, j3⟩ := packGo_form (((pk 0 ((norm l).take k) ++ [0]).length : Int) - 1) (norm l) [] 0 0
    have hp' := packGo_eq (((pk 0 ((norm l).take k) ++ [0]).length : Int) - 1) (norm l) k' [] 0 0 j1 j2 j3
    simp only [List.nil_append, List.length_nil, Int.zero_add] at hp' j2
    refine ⟨_, _, hp', ?_, ?_⟩
    · refine sumR_take_lt hone k' k ?_ k1
      rcases Nat.lt_or_ge k' k with hlt | hge
      · exact hlt
      · exfalso
        have hk0 : 0 < k := by
          rcases Nat.eq_zero_or_pos k with h0 | h0
          · subst h0; simp [pk] at h6
          · exact h0
        have h7 := j2 (by omega)
        rcases Nat.eq_or_lt_of_le hge with he | hlt
        · subst he; simp at h7; omega
        · have := pk_mono (norm l) 0 k k' hlt j1
          simp at h7; omega
    · exact sumR_nonneg (fun r hr => by have := hone r (List.mem_of_mem_take hr); omega)
end Go.Proofs.Ytjdkdogiaokhjaa
