/- Runs: the specification's Map. -/
import Derived.Test.YtjdkdogiaokhjaaTn
namespace Go.Proofs.Ytjdkdogiaokhjaa
open Go.RowKit Go.Proofs
set_option linter.unusedSimpArgs false
set_option linter.unusedVariables false

def NFc : List R → Prop
  | [] => True
  | r :: l => r.2 ≠ 0 ∧ (∀ s, l.head? = some s → glue r s = false) ∧ NFc l
theorem NFc.snoc {x r : R} (hr : r.2 ≠ 0) (hg : glue x r = false) : ∀ (l : List R), NFc (l ++ [x]) → NFc (l ++ [x] ++ [r])
  | [], h => ⟨h.1, fun s hs => by simp at hs; subst hs; exact hg, hr, fun s hs => by simp at hs, trivial⟩
  | y :: l, h => by
    obtain ⟨h1, h2, h3⟩ := h
    refine ⟨h1, fun s hs => h2 s ?_, NFc.snoc hr hg l h3⟩
    cases l with
    | nil => simpa using hs
    | cons z l => simpa using hs
theorem NFc.of_nf {l : List R} (h : NF l) : NFc l := by
  induction h with
  | nil => trivial
  | one r h => exact ⟨h, fun s hs => by simp at hs, trivial⟩
  | snoc l x r h hr hg ih => exact NFc.snoc hr hg l ih
theorem NFc.addAll_ : ∀ (l : List R) (x : R) (out : List R), NFc (x :: l) → addAll (out ++ [x]) l = out ++ [x] ++ l
  | [], x, out, _ => by simp [addAll]
  | s :: l, x, out, h => by
    obtain ⟨h1, h2, h3⟩ := h
    have e : addAll (out ++ [x]) (s :: l) = addAll (addR (out ++ [x]) s) l := by simp [addAll]
    have hg := h2 s rfl
    rw [e, addR_snoc _ _ _ h3.1, hg]
    simp only [Bool.false_eq_true, if_false]
    rw [NFc.addAll_ l s (out ++ [x]) h3]
    simp
theorem NFc.norm_ {l : List R} (h : NFc l) : norm l = l := by
  cases l with
  | nil => rfl
  | cons x l =>
    have e : norm (x :: l) = addAll (addR [] x) l := by simp [norm, addAll]
    rw [e, addR_nil _ h.1]
    have := NFc.addAll_ l x [] h
    simpa using this
theorem map_head (m : List R) (hm : OkL m) (hn : NFc m) : ∀ (pos page : Int) (p : Nat), page = pos + p → (p : Int) < sumR m → ∃ t, (pg m).drop p = pg (mapAt page pos m :: t) ∧ NFc (mapAt page pos m :: t) ∧ Wk (mapAt page pos m :: t) := by
  induction m with
  | nil => intro pos page p _ h; simp [sumR] at h; omega
  | cons r m ih =>
    intro pos page p hp h
    have hr := (okR_iff r).1 (hm r (by simp))
    have hm' : OkL m := fun y hy => hm y (by simp [hy])
    obtain ⟨n1, n2, n3⟩ := hn
    simp only [mapAt]
    by_cases hlt : page < pos + r.2
    · rw [if_pos hlt]
      refine ⟨m, ?_, ⟨by simp only; omega, fun s hs => ?_, n3⟩, fun y hy => ?_⟩
      · have e := ones_add r p (r.2.toNat - p)
        rw [show p + (r.2.toNat - p) = r.2.toNat by omega] at e
        rw [pg_cons, pg_cons, e, List.append_assoc, List.drop_left' (ones_len r p)]
        congr 1
        simp only
        rw [show (pos + r.2 - page).toNat = r.2.toNat - p by omega]
        by_cases h1 : r.1 = -1
        · rw [if_pos h1, if_neg (by omega), h1]; rfl
        · rw [if_neg h1, if_pos (by omega), show page - pos = (p : Int) by omega]; rfl
      · have := n2 s hs
        simp only [glue] at this ⊢
        by_cases h1 : r.1 = -1
        · simp only [h1, if_true] at this ⊢; simpa using this
        · simp only [h1, if_false] at this ⊢
          rw [show r.1 + (page - pos) + (pos + r.2 - page) = r.1 + r.2 by omega]
          have e1 : decide (r.1 + (page - pos) = -1) = false := by simp; omega
          have e2 : decide (r.1 + (page - pos) ≠ -1) = true := by simp; omega
          simp only [h1, decide_false, ne_eq, not_false_eq_true, decide_true] at this
          simp only [e1, e2]
          exact this
      · rcases List.mem_cons.1 hy with rfl | hy
        · simp only; split <;> omega
        · exact hm'.wk y hy
    · rw [if_neg hlt]
      obtain ⟨t, t1, t2, t3⟩ := ih hm' n3 (pos + r.2) page (p - r.2.toNat) (by omega) (by simp only [sumR] at h; omega)
      refine ⟨t, ?_, t2, t3⟩
      rw [pg_cons, List.drop_append, ones_len, List.drop_of_length_le (by rw [ones_len]; omega), List.nil_append]
      exact t1
theorem map_part {l : List R} {page : Int} (h : mustE l = 0) (h0 : 0 ≤ page) (h1 : page < sumR l) : ∃ t, partR l page (page + 1073741824) = mapAt page 0 (norm l) :: t := by
  have hw := (okL_of_must h).wk
  have hs := (mustE_zero h).2.2
  have hp := pg_len hw
  obtain ⟨t, t1, t2, t3⟩ := map_head (norm l) (okL_of_must (must_norm h)) (NFc.of_nf (nf_norm (okL_of_must h).pos).1) 0 page page.toNat (by omega) (by rw [norm_sum]; omega)
  refine ⟨t, ?_⟩
  rw [part_pg hw, List.take_of_length_le (by omega), ← pg_norm hw, t1, ← norm_pg t3, t2.norm_]
set_option maxRecDepth 100000 in
set_option maxHeartbeats 1000000 in
theorem refMap_any (A : Option Addr) (l : List R) (c : Nat) (page : Int) (w : World) (hR : Rd w A l) (h0 : mustE l = 0) (hp0 : 0 ≤ page) (hp1 : page < sumR l) :
    Calls Try.prog 35 #[.slice A l.length c, .int .i64 page] w fun e w' => e = .returned (.tuple #[.int .i64 (mapAt page 0 (norm l)).1, .int .i64 (mapAt page 0 (norm l)).2]) ∧ Below w.heap.size w w' := by
  obtain ⟨t, ht⟩ := map_part h0 hp0 hp1
  have hs := (mustE_zero h0).2.2
  have HP := RPart A l c page 1073741824 w rfl hR h0 (by omega) (by omega)
  rw [ht] at HP
  generalize mapAt page 0 (norm l) = x at *
  have H := Lib.hid HP
  clear HP ht h0 hR
  go_enter Try.func35, Try.ntmps35
  go_wp2_with fail
  refine H.out.mono ?_
  rintro e w1 ⟨A1, c1, rfl, hN, hB⟩
  obtain ⟨b, o, rfl, d1, d2⟩ := hN.1.at_ 0 (by simp)
  simp only [List.getElem_cons_zero, Nat.zero_mul, Nat.add_zero] at d1 d2
  have hB2 : ∀ k, Below w.heap.size w (w1.drewN k) := fun k => hB.trans ((below_quiet0 w1 k).mono hB.size)
  have HB := Lib.hid hB2
  clear hN hB hB2 H
  have hl1 : (0 : Int) < ((x :: t).length : Int) := by simp only [List.length_cons]; omega
  have hl2 : 0 < (x :: t).length := by simp
  go_wp2_with fail
  go_quiet (fail)
  go_wp2_with fail
  go_ret2
  exact ⟨rfl, HB.out _⟩
end Go.Proofs.Ytjdkdogiaokhjaa
