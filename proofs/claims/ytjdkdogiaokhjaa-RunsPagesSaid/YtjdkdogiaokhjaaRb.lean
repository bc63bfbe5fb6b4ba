/- Runs: the deferred 'caught', and the other small functions. -/
import Derived.Test.YtjdkdogiaokhjaaRa
import Derived.Recover
import Derived.KernelRfl
import Derived.Laws.Pointers
namespace Go.Proofs.Ytjdkdogiaokhjaa
open Go.RowKit Go.Proofs
set_option linter.unusedSimpArgs false
set_option linter.unusedVariables false

theorem assert_fault (v : Value) (W : World) : (Instr.typeAssert (.iface 95 v) 20 95 true).run Try.prog W = .ok (.tuple #[v, .bool true]) W := by
  simp [Instr.typeAssert, run_underlying Try.underlying95]
set_option maxHeartbeats 400000 in
theorem caught_fault (b : Nat) (x e : Int) (w : World) (hc : w.cell? ⟨b, 0, none⟩ = some (.int .i64 x)) (hz : w.frozen? ⟨b, 0, none⟩ = false) :
    CallsD Try.prog 49 #[.pointer (some ⟨b, 0, none⟩)] (.panicking (fault e)) w fun r u' w' =>
      r = .returned (.tuple #[]) ∧ u' = .panicking [{ v := .iface 95 (.int .i64 e), recovered := true }] ∧ w' = w.setCell ⟨b, 0, none⟩ (.int .i64 e) := by
  refine callsD_of_wpS Try.func49 rfl fun c₀ cs hu => ?_
  simp only [Try.ntmps49, List.size_toArray, List.length_cons, List.length_nil, Nat.reduceAdd, Nat.reduceSub, Array.replicate_succ, Array.replicate_zero, List.push_toArray, List.append_toArray, List.nil_append, List.cons_append]
  apply wpS_seq
  apply wpS_region
  simp [wpOpsS, go_sem, recoverD, hu, fault, Exit.thenS]
  clear hu
  have hta := fun (v : Value) (W : World) => assert_fault v W
  refine wpS_of_wp ?_
  go_wp2
  exact ⟨rfl, _, rfl, _, results_none rfl _ _ _, rfl, rfl, rfl⟩
theorem caught_idle (b : Nat) (w : World) :
    CallsD Try.prog 49 #[.pointer (some ⟨b, 0, none⟩)] .returning w fun r u' w' => r = .returned (.tuple #[]) ∧ u' = .returning ∧ w' = w := by
  refine callsD_of_wpS Try.func49 rfl fun c₀ cs hu => ?_
  simp only [Try.ntmps49, List.size_toArray, List.length_cons, List.length_nil, Nat.reduceAdd, Nat.reduceSub, Array.replicate_succ, Array.replicate_zero, List.push_toArray, List.append_toArray, List.nil_append, List.cons_append]
  apply wpS_seq
  apply wpS_region
  simp [wpOpsS, go_sem, recoverD, hu, fault, Exit.thenS]
  refine wpS_of_wp ?_
  go_wp2
  refine ⟨rfl, _, ?_, _, results_none rfl _ _ _, rfl, rfl, rfl⟩
  rw [← hu]
theorem door_ok {fn : Func} {tmps : Array Value} {R : Ending → World → Prop} {b : Nat} {w : World} {v : Value} (hr : (results fn tmps).run Try.prog w = .ok v w) (h : R (.returned v) w) :
    Leaves Try.prog fn tmps R [{ target := .fn (.func 49) #[], args := #[.pointer (some ⟨b, 0, none⟩)] }] .returning w := by
  refine leaves_cons (f := 49) (args := #[.pointer (some ⟨b, 0, none⟩)]) (by simp) (by simp [go_sem]) ?_
  refine (caught_idle b w).mono ?_
  rintro e u' w'' ⟨rfl, rfl, rfl⟩
  exact ⟨v, hr, h⟩
theorem door_fault {fn : Func} {tmps : Array Value} {R : Ending → World → Prop} {b : Nat} {x e : Int} {w : World} {v : Value} (hc : w.cell? ⟨b, 0, none⟩ = some (.int .i64 x)) (hz : w.frozen? ⟨b, 0, none⟩ = false)
    (hr : (results fn tmps).run Try.prog (w.setCell ⟨b, 0, none⟩ (.int .i64 e)) = .ok v (w.setCell ⟨b, 0, none⟩ (.int .i64 e))) (h : R (.returned v) (w.setCell ⟨b, 0, none⟩ (.int .i64 e))) :
    Leaves Try.prog fn tmps R [{ target := .fn (.func 49) #[], args := #[.pointer (some ⟨b, 0, none⟩)] }] (.panicking (fault e)) w := by
  refine leaves_cons (f := 49) (args := #[.pointer (some ⟨b, 0, none⟩)]) (by simp) (by simp [go_sem]) ?_
  refine (caught_fault b x e w hc hz).mono ?_
  rintro r u' w'' ⟨rfl, rfl, rfl⟩
  exact ⟨v, hr, h⟩
/-- a variable's own block -/
structure Box (w : World) (b : Nat) (v : Value) : Prop where
  cell : w.cell? ⟨b, 0, none⟩ = some v
  free : w.frozen? ⟨b, 0, none⟩ = false
theorem Box.new (w : World) (v : Value) (t : TypeId) : Box (w.alloc (.cells #[v] t)) w.heap.size v := ⟨by simp [go_sem], by simp [go_sem]⟩
theorem Box.below {w w' : World} {b : Nat} {v : Value} (h : Box w b v) (hb : Below w.heap.size w w') : Box w' b v :=
  ⟨(hb.cell (World.block_lt_of_cell? w _ h.cell)).trans h.cell, (hb.frozen (World.block_lt_of_cell? w _ h.cell)).trans h.free⟩
theorem Box.set {w : World} {b : Nat} {v : Value} (h : Box w b v) (u : Value) : Box (w.setCell ⟨b, 0, none⟩ u) b u :=
  ⟨World.cell?_setCell_same' _ _ _ (by rw [h.cell]; rfl), by rw [World.frozen?_setCell]; exact h.free⟩
theorem Box.lt {w : World} {b : Nat} {v : Value} (h : Box w b v) : b < w.heap.size := World.block_lt_of_cell? w _ h.cell

theorem must_ok {A : Option Addr} {l : List R} {c : Nat} {w : World} (h0 : Hid (mustE l = 0)) (hR : Rd w A l) (hn : l.length ≤ 1048576) :
    Calls Try.prog 50 #[.slice A l.length c] w fun e w' => e = .returned (.tuple #[]) ∧ Below w.heap.size w w' :=
  (must_any A l c w hR hn).mono fun e w' h => ⟨h.1 h0.out, h.2.2⟩
theorem must_no {A : Option Addr} {l : List R} {c : Nat} {w : World} (h0 : Hid (mustE l ≠ 0)) (hR : Rd w A l) (hn : l.length ≤ 1048576) :
    Calls Try.prog 50 #[.slice A l.length c] w fun e w' => e = .panicked (fault (mustE l)) ∧ Below w.heap.size w w' :=
  (must_any A l c w hR hn).mono fun e w' h => ⟨h.2.1 h0.out, h.2.2⟩
theorem below_box {w w1 : World} {T : TypeId} {v : Value} (hB : Below (w.alloc (.cells #[v] T)).heap.size (w.alloc (.cells #[v] T)) w1) : Below w.heap.size w w1 :=
  ((Below.refl _ w).alloc (Nat.le_refl _) _).trans (hB.mono (by simp))
/-- what 'runs.Valid' gives -/
theorem Valid_any (A : Option Addr) (l : List R) (c : Nat) (w : World) (hR : Rd w A l) (hn : l.length ≤ 1048576) :
    Calls Try.prog 46 #[.slice A l.length c] w fun r w' => r = .returned (.int .i64 (mustE l)) ∧ Below w.heap.size w w' := by
  have hR1 := hR.below ((Below.refl _ w).alloc (Nat.le_refl _) (.cells #[.int .i64 0] 26))
  have hx := Box.new w (.int .i64 0) 26
  by_cases h0 : mustE l = 0
  · have H0 := Lib.hid h0
    go_enter_defers Try.func46, Try.ntmps46
    rw [h0]
    clear h0
    go_wp2_with (go_at_call 50; (with_reducible refine (must_ok H0 hR1 hn).mono ?_); rintro e w1 ⟨rfl, hB⟩; have hb := hx.below hB; have hb1 := hb.cell; have hb2 := hb.free)
    refine door_ok (v := .int .i64 0) ?_ ⟨rfl, ?_⟩
    · simp [results, Try.results46, go_sem, (hb.set _).cell]
    · exact (below_box hB).setCell (Nat.le_refl _) _
  · have H0 := Lib.hid h0
    clear h0
    go_enter_defers Try.func46, Try.ntmps46
    go_wp2_with (go_at_call 50; (with_reducible refine (must_no H0 hR1 hn).mono ?_); rintro e w1 ⟨rfl, hB⟩; have hb := hx.below hB; have hb1 := hb.cell; have hb2 := hb.free)
    refine door_fault hb1 hb2 (v := .int .i64 (mustE l)) ?_ ⟨rfl, ?_⟩
    · simp [results, Try.results46, go_sem, (hb.set _).cell]
    · exact (below_box hB).setCell (Nat.le_refl _) _
end Go.Proofs.Ytjdkdogiaokhjaa
