/- Runs: how lists of runs lie in memory; the small functions need, pages, must. -/
import Derived.WalkKit
import Derived.WalkLawsBesides
import Derived.Deep.QuietTactic
import Derived.BigQuiet
import Derived.Lib.Hide
import Derived.Test.YtjdkdogiaokhjaaProg
import Derived.Test.YtjdkdogiaokhjaaRp
namespace Go.Proofs.Ytjdkdogiaokhjaa
open Go.RowKit Go.Proofs
set_option linter.unusedSimpArgs false
set_option linter.unusedVariables false

def rv (l : List R) : List Value := l.flatMap fun r => [.int .i64 r.1, .int .i64 r.2]
theorem rv_length (l : List R) : (rv l).length = l.length * 2 := by
  induction l with
  | nil => rfl
  | cons x l ih => simp [rv] at ih ⊢; omega
theorem rv_append (a b : List R) : rv (a ++ b) = rv a ++ rv b := by simp [rv]
theorem rv_get (l : List R) : ∀ (i : Nat) (h : i < l.length), (rv l)[i * 2]? = some (.int .i64 l[i].1) ∧ (rv l)[i * 2 + 1]? = some (.int .i64 l[i].2) := by
  induction l with
  | nil => intro i h; simp at h
  | cons x l ih =>
    intro i h
    cases i with
    | zero => simp [rv]
    | succ i =>
      have := ih i (by simpa using h)
      have e : rv (x :: l) = .int .i64 x.1 :: .int .i64 x.2 :: rv l := by simp [rv]
      rw [e, show (i + 1) * 2 = i * 2 + 1 + 1 from by omega, show i * 2 + 1 + 1 + 1 = i * 2 + 1 + 1 + 1 from rfl]
      simpa using this

/-- a slice at A reads as the list l -/
def Rd (w : World) (A : Option Addr) (l : List R) : Prop :=
  l ≠ [] → ∃ b o, A = some ⟨b, o, none⟩ ∧ ∀ i (h : i < l.length), w.cell? ⟨b, o + i * 2, none⟩ = some (.int .i64 l[i].1) ∧ w.cell? ⟨b, o + i * 2 + 1, none⟩ = some (.int .i64 l[i].2)
theorem Rd.nil (w : World) (A : Option Addr) : Rd w A [] := fun h => absurd rfl h
theorem Rd.below {w w' : World} {A : Option Addr} {l : List R} (h : Rd w A l) (hb : Below w.heap.size w w') : Rd w' A l := fun hl => by
  obtain ⟨b, o, rfl, hc⟩ := h hl
  refine ⟨b, o, rfl, fun i hi => ?_⟩
  obtain ⟨h1, h2⟩ := hc i hi
  exact ⟨(hb.cell (World.block_lt_of_cell? w _ h1)).trans h1, (hb.cell (World.block_lt_of_cell? w _ h2)).trans h2⟩
theorem Rd.later {w w2 : World} {A : Option Addr} {l : List R} (h : Rd w A l) (hb : Below w.heap.size w w2) : Rd w2 A l := h.below hb
theorem Rd.at_ {w : World} {A : Option Addr} {l : List R} (h : Rd w A l) (k : Nat) (hk : k < l.length) : ∃ b o, A = some ⟨b, o, none⟩ ∧ w.cell? ⟨b, o + k * 2, none⟩ = some (.int .i64 l[k].1) ∧ w.cell? ⟨b, o + k * 2 + 1, none⟩ = some (.int .i64 l[k].2) := by
  obtain ⟨b, o, e, hc⟩ := h (by intro e; subst e; simp at hk)
  exact ⟨b, o, e, hc k hk⟩

def fault (e : Int) : List PanicEntry := [{ v := .iface 95 (.int .i64 e), recovered := false }]

theorem need_yes (e : Int) (w : World) : Calls Try.prog 55 #[.bool true, .int .i64 e] w fun r w' => r = .returned (.tuple #[]) ∧ w = w' := by
  go_enter Try.func55, Try.ntmps55
  go_wp2
  go_end0
  exact ⟨rfl, rfl⟩
theorem need_no (e : Int) (w : World) : Calls Try.prog 55 #[.bool false, .int .i64 e] w fun r w' => r = .panicked (fault e) ∧ w = w' := by
  go_enter Try.func55, Try.ntmps55
  go_wp2
  exact ⟨rfl, rfl, rfl⟩

theorem need_rule (b : Bool) (e : Int) {w : World} {Q : Ending → World → Prop} (h1 : b = true → Q (.returned (.tuple #[])) w) (h2 : b = false → Q (.panicked (fault e)) w) :
    Calls Try.prog 55 #[.bool b, .int .i64 e] w Q := by
  cases b
  · refine (need_no e w).mono ?_
    rintro r w' ⟨rfl, rfl⟩
    exact h2 rfl
  · refine (need_yes e w).mono ?_
    rintro r w' ⟨rfl, rfl⟩
    exact h1 rfl

theorem pages_any (A : Option Addr) (l : List R) (c : Nat) (w : World) (hR : Rd w A l) (hn : l.length ≤ 1048576) (hs : Smalls 1099511627776 l) :
    Calls Try.prog 56 #[.slice A l.length c] w fun r w' => r = .returned (.int .i64 (sumR l)) ∧ Below w.heap.size w w' := by
  go_enter Try.func56, Try.ntmps56
  go_wp2
  go_loopw [3, 8] (fun s i wr => ∃ k : Nat, k ≤ l.length ∧ i = .int .i64 k ∧ s = .int .i64 (sumR (l.take k)) ∧ Below w.heap.size w wr) (fun _ i _ => l.length - (intOf i).toNat)
  case atStart => exact ⟨0, by omega, rfl, rfl, Below.refl _ _⟩
  case round =>
    obtain ⟨k, hk, rfl, rfl, hB⟩ := hrel
    by_cases hlt : k < l.length
    · obtain ⟨b, o, rfl, c1, c2⟩ := (hR.below hB).at_ k hlt
      have hb := sumR_bd (smalls_take hs k)
      have hl : (l.take k).length ≤ k := List.length_take_le _ _
      have hx := hs l[k] (List.getElem_mem hlt)
      have hst := Lib.hid (sumR_take_succ l k hlt)
      have hb2 : sumR (l.take k) ≤ 1099511627776 * 1048576 := by
        refine Int.le_trans hb.2 ?_
        exact Int.mul_le_mul_of_nonneg_left (by omega) (by omega)
      clear hs hR
      go_wp2
      go_roundw
      case rel => exact ⟨k + 1, by omega, by go_num, by rw [hst.out], hB.alloc hB.size _⟩
      case measure => simp [intOf]; omega
    · have e : k = l.length := by omega
      subst e
      go_wp2
      go_ret
      exact ⟨by simp, hB⟩

theorem mustE_len {l : List R} (h : 2000 < l.length) : mustE l = 2 := by simp [mustE, h]
theorem mustE_bad {l : List R} (h : ¬ 2000 < l.length) (hb : l.all okR = false) : mustE l = 1 := by simp [mustE, h, hb]
theorem mustE_sum {l : List R} (h : ¬ 2000 < l.length) (hb : l.all okR = true) (hs : 1073741824 < sumR l) : mustE l = 1 := by simp [mustE, h, hb, hs]
theorem mustE_ok {l : List R} (h : ¬ 2000 < l.length) (hb : l.all okR = true) (hs : ¬ 1073741824 < sumR l) : mustE l = 0 := by simp [mustE, h, hb, hs]
def MustPost (l : List R) (w : World) (e : Ending) (w' : World) : Prop :=
  (mustE l = 0 → e = .returned (.tuple #[])) ∧ (mustE l ≠ 0 → e = .panicked (fault (mustE l))) ∧ Below w.heap.size w w'

theorem must_any (A : Option Addr) (l : List R) (c : Nat) (w : World) (hR : Rd w A l) (hn : l.length ≤ 1048576) :
    Calls Try.prog 50 #[.slice A l.length c] w (MustPost l w) := by
  by_cases h1 : 2000 < l.length
  · have hd : decide ((l.length : Int) ≤ 2000) = false := by simp; omega
    go_enter Try.func50, Try.ntmps50
    go_wp2_with (go_at_call 55; (with_reducible refine need_rule _ _ ?_ ?_) <;> intro hq <;> (first | (cases hq; done) | skip) <;> (try simp only [decide_eq_true_eq, decide_eq_false_iff_not, Bool.or_eq_true, Bool.or_eq_false_iff, Bool.and_eq_true, Bool.and_eq_false_iff, beq_iff_eq, beq_eq_false_iff_ne, ne_eq, bne_iff_ne, Bool.not_eq_true, Int.not_le, Int.not_lt] at hq) <;> go_prune)
    refine ⟨rfl, ?_⟩
    simp only [MustPost, mustE_len h1]
    exact ⟨by simp, fun _ => trivial, Below.refl _ _⟩
  · have hd : decide ((l.length : Int) ≤ 2000) = true := by simp; omega
    go_enter Try.func50, Try.ntmps50
    go_wp2_with (go_at_call 55; (with_reducible refine need_rule _ _ ?_ ?_) <;> intro hq <;> (first | (cases hq; done) | skip) <;> (try simp only [decide_eq_true_eq, decide_eq_false_iff_not, Bool.or_eq_true, Bool.or_eq_false_iff, Bool.and_eq_true, Bool.and_eq_false_iff, beq_iff_eq, beq_eq_false_iff_ne, ne_eq, bne_iff_ne, Bool.not_eq_true, Int.not_le, Int.not_lt] at hq) <;> go_prune)
    clear hd
    go_loopw [10] (fun i wr => ∃ k : Nat, k ≤ l.length ∧ i = .int .i64 k ∧ (l.take k).all okR = true ∧ Below w.heap.size w wr) (fun i _ => l.length - (intOf i).toNat)
    case atStart => exact ⟨0, by omega, rfl, rfl, Below.refl _ _⟩
    case round =>
      obtain ⟨k, hk, rfl, hall, hB⟩ := hrel
      by_cases hlt : k < l.length
      · obtain ⟨b, o, rfl, c1, c2⟩ := (hR.below hB).at_ k hlt
        have hs := Lib.hid (all_take_succ l k hlt)
        have hf := all_false_of l k hlt
        have hA := Lib.hid hall
        clear hall hR
        have hB1 : Below w.heap.size w (wr.alloc (Obj.cells #[Value.int IntKind.i64 l[k].1, Value.int IntKind.i64 l[k].2] 53)) := hB.alloc hB.size _
        generalize hrk : l[k] = r at *
        have hr := Lib.hid hrk
        clear hrk
        obtain ⟨to, many⟩ := r
        have hbad : okR (to, many) = false → MustPost l w (.panicked (fault 1)) (wr.alloc (Obj.cells #[Value.int IntKind.i64 to, Value.int IntKind.i64 many] 53)) := by
          intro h
          rw [MustPost, mustE_bad h1 (hf h)]
          exact ⟨by simp, fun _ => rfl, hB1⟩
        have hHb := Lib.hid hbad
        clear hbad hf
        go_wp2_with (go_at_call 55; (with_reducible refine need_rule _ _ ?_ ?_) <;> intro hq <;> (first | (cases hq; done) | skip) <;> (try simp only [decide_eq_true_eq, decide_eq_false_iff_not, Bool.or_eq_true, Bool.or_eq_false_iff, Bool.and_eq_true, Bool.and_eq_false_iff, beq_iff_eq, beq_eq_false_iff_ne, ne_eq, bne_iff_ne, Bool.not_eq_true, Int.not_le, Int.not_lt] at hq) <;> go_prune)
        case roundEnd =>
          have hto : to = -1 := by assumption
          subst hto
          refine ⟨⟨k + 1, by omega, by go_num, ?_, hB1⟩, by simp [intOf]; omega⟩
          rw [hs.out, hA.out, Bool.true_and, okR_iff]
          omega
        case roundEnd =>
          refine ⟨⟨k + 1, by omega, by go_num, ?_, hB1⟩, by simp [intOf]; omega⟩
          rw [hs.out, hA.out, Bool.true_and, okR_iff]
          omega
        all_goals exact ⟨rfl, hHb.out (Bool.eq_false_iff.2 fun h => by have := (okR_iff _).1 h; omega)⟩
      · have e : k = l.length := by omega
        subst e
        rw [List.take_length] at hall
        have hs : Smalls 1099511627776 l := fun r hr => by have := smalls_of_ok hall r hr; omega
        have hRw := hR.below hB
        clear hk hlt
        by_cases hsm : 1073741824 < sumR l
        · have hM := Lib.hid (mustE_sum h1 hall hsm)
          have hd : decide (sumR l ≤ 1073741824) = false := by simp; omega
          clear hall
          go_wp2_with (first | (go_at_call 56; (with_reducible refine (pages_any A l c _ hRw hn hs).mono ?_); rintro e w' ⟨rfl, hB'⟩) | (go_at_call 55; (with_reducible refine need_rule _ _ ?_ ?_) <;> intro hq <;> (first | (cases hq; done) | skip) <;> (try simp only [decide_eq_true_eq, decide_eq_false_iff_not, Bool.or_eq_true, Bool.or_eq_false_iff, Bool.and_eq_true, Bool.and_eq_false_iff, beq_iff_eq, beq_eq_false_iff_ne, ne_eq, bne_iff_ne, Bool.not_eq_true, Int.not_le, Int.not_lt] at hq) <;> go_prune))
          refine ⟨rfl, ?_⟩
          rw [MustPost, hM.out]
          exact ⟨by simp, fun _ => rfl, hB.trans (hB'.mono hB.size)⟩
        · have hM := Lib.hid (mustE_ok h1 hall hsm)
          have hd : decide (sumR l ≤ 1073741824) = true := by simp; omega
          clear hall
          go_wp2_with (first | (go_at_call 56; (with_reducible refine (pages_any A l c _ hRw hn hs).mono ?_); rintro e w' ⟨rfl, hB'⟩) | (go_at_call 55; (with_reducible refine need_rule _ _ ?_ ?_) <;> intro hq <;> (first | (cases hq; done) | skip) <;> (try simp only [decide_eq_true_eq, decide_eq_false_iff_not, Bool.or_eq_true, Bool.or_eq_false_iff, Bool.and_eq_true, Bool.and_eq_false_iff, beq_iff_eq, beq_eq_false_iff_ne, ne_eq, bne_iff_ne, Bool.not_eq_true, Int.not_le, Int.not_lt] at hq) <;> go_prune))
          go_end0
          rw [MustPost, hM.out]
          exact ⟨fun _ => rfl, by simp, hB.trans (hB'.mono hB.size)⟩
end Go.Proofs.Ytjdkdogiaokhjaa
