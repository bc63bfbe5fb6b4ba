/- Runs: fits, inside; the frame of an exported function. -/
import Derived.Test.YtjdkdogiaokhjaaRg
namespace Go.Proofs.Ytjdkdogiaokhjaa
open Go.RowKit Go.Proofs
set_option linter.unusedSimpArgs false
set_option linter.unusedVariables false

abbrev OwnR (w : World) (base : Nat) (v : Value) (l : List R) : Prop := w.ownsRow base 53 2 v l.length (rv l)
theorem own_below {w w' : World} {base : Nat} {v : Value} {l : List R} (h : OwnR w base v l) (hb : Below w.heap.size w w') : OwnR w' base v l :=
  h.kept (row := none) ⟨hb.os, hb.tape, hb.output, hb.size, fun k hk _ => hb.block k hk⟩ (by cases hv : v.ownBlock <;> simp)
theorem own_weak {w : World} {base base' : Nat} {v : Value} {l : List R} (h : OwnR w base v l) (hb : base' ≤ base) : OwnR w base' v l := by
  refine ⟨h.1, ?_⟩
  rcases h.2 with hn | ⟨g, cap, cur, rfl, hg, rest⟩
  · exact .inl hn
  · exact .inr ⟨g, cap, cur, rfl, by omega, rest⟩
theorem own_nil' (w : World) (base : Nat) : OwnR w base (.slice none 0 0) [] := World.ownsRow_nil _ _ _ _
theorem fits_ok (A : Option Addr) (l : List R) (c : Nat) (w : World) (hR : Rd w A l) (hn : l.length ≤ 1048576) (hf : Smalls 1099511627776 l) (h0 : Hid (fitsE l = 0)) :
    Calls Try.prog 54 #[.slice A l.length c] w fun e w' => e = .returned (.slice A l.length c) ∧ Below w.heap.size w w' := by
  have h := h0.out
  unfold fitsE at h
  split at h
  · rename_i hh
    obtain ⟨h1, h2⟩ := hh
    have d1 : decide ((l.length : Int) ≤ 2000) = true := by simp; omega
    have HP := Lib.hid (fun w (hR : Rd w A l) => pages_any A l c w hR hn hf)
    clear hf h
    go_enter Try.func54, Try.ntmps54
    go_wp2_with (first | (go_at_call 56; (with_reducible refine (HP.out _ hR).mono ?_); rintro e w1 ⟨rfl, hB⟩) | (go_at_call 55; (with_reducible refine need_rule _ _ ?_ ?_) <;> intro hq <;> (first | (cases hq; done) | skip) <;> (try simp only [decide_eq_true_eq, decide_eq_false_iff_not, Bool.or_eq_true, Bool.or_eq_false_iff, Bool.and_eq_true, Bool.and_eq_false_iff, beq_iff_eq, beq_eq_false_iff_ne, ne_eq, bne_iff_ne, Bool.not_eq_true, Int.not_le, Int.not_lt] at hq) <;> go_prune))
    go_ret
    exact ⟨rfl, hB⟩
  · simp at h
theorem fits_no (A : Option Addr) (l : List R) (c : Nat) (w : World) (hR : Rd w A l) (hn : l.length ≤ 1048576) (hf : Smalls 1099511627776 l) (h0 : Hid (fitsE l ≠ 0)) :
    Calls Try.prog 54 #[.slice A l.length c] w fun e w' => e = .panicked (fault 2) ∧ Below w.heap.size w w' := by
  have h := h0.out
  unfold fitsE at h
  split at h
  · simp at h
  · rename_i hh
    have HP := Lib.hid (fun w (hR : Rd w A l) => pages_any A l c w hR hn hf)
    clear hf h
    by_cases h1 : l.length ≤ 2000
    · have d1 : decide ((l.length : Int) ≤ 2000) = true := by simp; omega
      have d2 : decide (sumR l ≤ 1073741824) = false := by simp; omega
      clear hh
      go_enter Try.func54, Try.ntmps54
      go_wp2_with (first | (go_at_call 56; (with_reducible refine (HP.out _ hR).mono ?_); rintro e w1 ⟨rfl, hB⟩) | (go_at_call 55; (with_reducible refine need_rule _ _ ?_ ?_) <;> intro hq <;> (first | (cases hq; done) | skip) <;> (try simp only [decide_eq_true_eq, decide_eq_false_iff_not, Bool.or_eq_true, Bool.or_eq_false_iff, Bool.and_eq_true, Bool.and_eq_false_iff, beq_iff_eq, beq_eq_false_iff_ne, ne_eq, bne_iff_ne, Bool.not_eq_true, Int.not_le, Int.not_lt] at hq) <;> go_prune))
      exact ⟨rfl, rfl, hB⟩
    · have d1 : decide ((l.length : Int) ≤ 2000) = false := by simp; omega
      clear hh
      go_enter Try.func54, Try.ntmps54
      go_wp2_with (first | (go_at_call 56; (with_reducible refine (HP.out _ hR).mono ?_); rintro e w1 ⟨rfl, hB⟩) | (go_at_call 55; (with_reducible refine need_rule _ _ ?_ ?_) <;> intro hq <;> (first | (cases hq; done) | skip) <;> (try simp only [decide_eq_true_eq, decide_eq_false_iff_not, Bool.or_eq_true, Bool.or_eq_false_iff, Bool.and_eq_true, Bool.and_eq_false_iff, beq_iff_eq, beq_eq_false_iff_ne, ne_eq, bne_iff_ne, Bool.not_eq_true, Int.not_le, Int.not_lt] at hq) <;> go_prune))
      exact ⟨rfl, rfl, Below.refl _ _⟩
theorem inside_ok (A : Option Addr) (l : List R) (c : Nat) (page many : Int) (w : World) (hR : Rd w A l) (hn : l.length ≤ 1048576) (hf : Smalls 1099511627776 l) (h1 : 0 ≤ page) (h2 : 0 ≤ many) (h3 : page ≤ sumR l) (h4 : many ≤ sumR l - page) (hs : sumR l ≤ 8589934592) :
    Calls Try.prog 51 #[.slice A l.length c, .int .i64 page, .int .i64 many] w fun e w' => e = .returned (.int .i64 (sumR l)) ∧ Below w.heap.size w w' := by
  have HP := Lib.hid (fun w (hR : Rd w A l) => pages_any A l c w hR hn hf)
  clear hf
  go_enter Try.func51, Try.ntmps51
  go_wp2_with (first | (go_at_call 56; (with_reducible refine (HP.out _ hR).mono ?_); rintro e w1 ⟨rfl, hB⟩) | (go_at_call 55; (with_reducible refine need_rule _ _ ?_ ?_) <;> intro hq <;> (first | (cases hq; done) | skip) <;> (try simp only [decide_eq_true_eq, decide_eq_false_iff_not, Bool.or_eq_true, Bool.or_eq_false_iff, Bool.and_eq_true, Bool.and_eq_false_iff, beq_iff_eq, beq_eq_false_iff_ne, ne_eq, bne_iff_ne, Bool.not_eq_true, Int.not_le, Int.not_lt] at hq) <;> go_prune))
  all_goals first | (go_ret; exact ⟨rfl, hB⟩) | (exfalso; omega)
theorem inside_no (A : Option Addr) (l : List R) (c : Nat) (page many : Int) (w : World) (hR : Rd w A l) (hn : l.length ≤ 1048576) (hf : Smalls 1099511627776 l) (h1 : ¬ (0 ≤ page ∧ 0 ≤ many ∧ page ≤ sumR l ∧ many ≤ sumR l - page)) (hs : sumR l ≤ 8589934592) (hs0 : 0 ≤ sumR l) :
    Calls Try.prog 51 #[.slice A l.length c, .int .i64 page, .int .i64 many] w fun e w' => e = .panicked (fault 24) ∧ Below w.heap.size w w' := by
  have HP := Lib.hid (fun w (hR : Rd w A l) => pages_any A l c w hR hn hf)
  have H1 := Lib.hid h1
  clear hf h1
  go_enter Try.func51, Try.ntmps51
  go_wp2_with (first | (go_at_call 56; (with_reducible refine (HP.out _ hR).mono ?_); rintro e w1 ⟨rfl, hB⟩) | (go_at_call 55; (with_reducible refine need_rule _ _ ?_ ?_) <;> intro hq <;> (first | (cases hq; done) | skip) <;> (try simp only [decide_eq_true_eq, decide_eq_false_iff_not, Bool.or_eq_true, Bool.or_eq_false_iff, Bool.and_eq_true, Bool.and_eq_false_iff, beq_iff_eq, beq_eq_false_iff_ne, ne_eq, bne_iff_ne, Bool.not_eq_true, Int.not_le, Int.not_lt] at hq) <;> go_prune))
  all_goals first | exact ⟨rfl, rfl, hB⟩ | (exfalso; have := H1.out; omega)
end Go.Proofs.Ytjdkdogiaokhjaa
