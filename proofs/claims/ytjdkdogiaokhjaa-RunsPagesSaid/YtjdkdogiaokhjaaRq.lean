/- Runs: Pack. -/
import Derived.Test.YtjdkdogiaokhjaaRo
namespace Go.Proofs.Ytjdkdogiaokhjaa
open Go.RowKit Go.Proofs
set_option linter.unusedSimpArgs false
set_option linter.unusedVariables false

def PackRes (w : World) (e : Int) (r : List Int × Int) (x : Ending) (w' : World) : Prop := ∃ v, x = .returned (.tuple #[v, .int .i64 r.2, .int .i64 e]) ∧ OwnB w' w.heap.size v r.1 ∧ Below w.heap.size w w'
theorem ownB_nil (w : World) (base : Nat) : OwnB w base (.slice none 0 0) [] := World.ownsRow_nil _ _ _ _
theorem ownB_setBox {W : World} {n base : Nat} {v u x : Value} {bs : List Int} (h : OwnB W base v bs) (hb : Boxed W n 26 x) : OwnB (W.setCell ⟨n, 0, none⟩ u) base v bs :=
  h.kept (grownBy_setCell' W n u) (.inr (hb.not_row (by decide) h).symm)
theorem ownB_below {w w' : World} {base : Nat} {v : Value} {bs : List Int} (h : OwnB w base v bs) (hb : Below w.heap.size w w') : OwnB w' base v bs :=
  h.kept (row := none) ⟨hb.os, hb.tape, hb.output, hb.size, fun k hk _ => hb.block k hk⟩ (by cases hv : v.ownBlock <;> simp)
theorem ownB_weak {w : World} {base base' : Nat} {v : Value} {bs : List Int} (h : OwnB w base v bs) (hb : base' ≤ base) : OwnB w base' v bs := by
  refine ⟨h.1, ?_⟩
  rcases h.2 with hn | ⟨g, cap, cur, rfl, hg, rest⟩
  · exact .inl hn
  · exact .inr ⟨g, cap, cur, rfl, by omega, rest⟩
set_option maxRecDepth 100000 in
set_option maxHeartbeats 2000000 in
theorem Pack_most (A : Option Addr) (l : List R) (c : Nat) (most : Int) (w : World) (hR : Rd w A l) (hn : l.length ≤ 1048576) (h0 : most < 1) :
    Calls Try.prog 25 #[.slice A l.length c, .int .i64 most] w (PackRes w 1 ([], 0)) := by
  have hs0 := ES.start w
  have hd : decide (1 ≤ most) = false := by simp; omega
  go_enter_defers Try.func25, Try.ntmps25
  go_wp2_with (first | (go_at_call 55; (with_reducible refine need_rule _ _ ?_ ?_) <;> intro hq <;> (first | (cases hq; done) | skip) <;> (try simp only [decide_eq_true_eq, decide_eq_false_iff_not, Bool.or_eq_true, Bool.or_eq_false_iff, Bool.and_eq_true, Bool.and_eq_false_iff, beq_iff_eq, beq_eq_false_iff_ne, ne_eq, bne_iff_ne, Bool.not_eq_true, Int.not_le, Int.not_lt] at hq) <;> go_prune))
  refine door_fault hs0.box.cell hs0.box.frozen (v := .tuple #[.slice none 0 0, .int .i64 0, .int .i64 1]) ?_ ⟨_, rfl, ownB_nil _ _, hs0.fin _⟩
  simp [results, Try.results25, go_sem, (hs0.box.set _).cell]
set_option maxRecDepth 100000 in
set_option maxHeartbeats 2000000 in
theorem Pack_bad (A : Option Addr) (l : List R) (c : Nat) (most : Int) (w : World) (hR : Rd w A l) (hn : l.length ≤ 1048576) (hm : 1 ≤ most) (h0 : mustE l ≠ 0) :
    Calls Try.prog 25 #[.slice A l.length c, .int .i64 most] w (PackRes w (mustE l) ([], 0)) := by
  have H0 := Lib.hid h0
  have hs0 := ES.start w
  have hd : decide (1 ≤ most) = true := by simp; omega
  clear h0
  go_enter_defers Try.func25, Try.ntmps25
  go_wp2_with (first | (go_at_call 55; (with_reducible refine need_rule _ _ ?_ ?_) <;> intro hq <;> (first | (cases hq; done) | skip) <;> (try simp only [decide_eq_true_eq, decide_eq_false_iff_not, Bool.or_eq_true, Bool.or_eq_false_iff, Bool.and_eq_true, Bool.and_eq_false_iff, beq_iff_eq, beq_eq_false_iff_ne, ne_eq, bne_iff_ne, Bool.not_eq_true, Int.not_le, Int.not_lt] at hq) <;> go_prune))
  refine (must_no H0 (hs0.rd hR) hn).mono ?_
  rintro e w1 ⟨rfl, hB⟩
  have hs1 := hs0.next hB
  go_wp2_with fail
  refine door_fault hs1.box.cell hs1.box.frozen (v := .tuple #[.slice none 0 0, .int .i64 0, .int .i64 (mustE l)]) ?_ ⟨_, rfl, ownB_nil _ _, hs1.fin _⟩
  simp [results, Try.results25, go_sem, (hs1.box.set _).cell]
theorem pack_pre {l : List R} (h : mustE l = 0) : (norm l).length ≤ 60000 ∧ (∀ r ∈ norm l, -1 ≤ r.1 ∧ r.1 ≤ 17179869184 ∧ 0 ≤ r.2 ∧ r.2 ≤ 17179869184) ∧ sumR (norm l) ≤ 1099511627776 := by
  have hm := (mild_of_must h).norm_
  obtain ⟨h1, h2, h3⟩ := mustE_zero h
  have hl := norm_len l
  refine ⟨by omega, fun r hr => ?_, by have := hm.2; omega⟩
  have := hm.1 r hr
  have := sumR_mem (fun r hr => (hm.1 r hr).2.2) r hr
  have := hm.2
  omega
set_option maxRecDepth 100000 in
set_option maxHeartbeats 2000000 in
theorem Pack_ok (A : Option Addr) (l : List R) (c : Nat) (most : Int) (w : World) (hR : Rd w A l) (hn : l.length ≤ 1048576) (hmo : 1 ≤ most) (h0 : mustE l = 0) :
    Calls Try.prog 25 #[.slice A l.length c, .int .i64 most] w (PackRes w 0 (packGo most [] 0 0 (norm l))) := by
  have H0 := Lib.hid h0
  have hs0 := ES.start w
  have hm := mild_of_must h0
  obtain ⟨p1, p2, p3⟩ := pack_pre h0
  have hd : decide (1 ≤ most) = true := by simp; omega
  clear h0
  go_enter_defers Try.func25, Try.ntmps25
  go_wp2_with (first | (go_at_call 55; (with_reducible refine need_rule _ _ ?_ ?_) <;> intro hq <;> (first | (cases hq; done) | skip) <;> (try simp only [decide_eq_true_eq, decide_eq_false_iff_not, Bool.or_eq_true, Bool.or_eq_false_iff, Bool.and_eq_true, Bool.and_eq_false_iff, beq_iff_eq, beq_eq_false_iff_ne, ne_eq, bne_iff_ne, Bool.not_eq_true, Int.not_le, Int.not_lt] at hq) <;> go_prune))
  refine (must_ok H0 (hs0.rd hR) hn).mono ?_
  rintro e w1 ⟨rfl, hB⟩
  have hs1 := hs0.next hB
  clear hB hs0
  have hJ := joined_one A l c w1 (hs1.rd hR) hn hm
  go_wp2_with fail
  refine hJ.mono ?_
  rintro e w2 ⟨v, rfl, ho, hB⟩
  obtain ⟨A1, c1, rfl, hc1, hcm1, hR1⟩ := own_form ho
  have hs2 := hs1.next hB
  have hP := packed_any A1 (norm l) c1 most w2 hR1 p1 p2 p3
  clear hJ hB hs1 ho p1 p2 p3
  go_wp2_with fail
  refine hP.mono ?_
  rintro e w3 ⟨vb, rfl, hob, hB⟩
  have hs3 := hs2.next hB
  have hc3 := hs3.box.cell
  have hz3 := hs3.box.frozen
  have hsz := hs2.below.size
  obtain ⟨r, hr⟩ : ∃ r, packGo most [] 0 0 (norm l) = r := ⟨_, rfl⟩
  rw [hr] at hob ⊢
  obtain ⟨AB, cB, rfl⟩ := row_form hob
  clear hP hB hs2
  go_wp2_with fail
  refine door_ok (v := .tuple #[.slice AB r.1.length cB, .int .i64 r.2, .int .i64 0]) ?_ ?_
  · simp [results, Try.results25, go_sem, (hs3.box.set _).cell]
  · rw [hr]
    exact ⟨_, rfl, ownB_setBox (ownB_weak hob hsz) hs3.box, hs3.fin _⟩
end Go.Proofs.Ytjdkdogiaokhjaa
