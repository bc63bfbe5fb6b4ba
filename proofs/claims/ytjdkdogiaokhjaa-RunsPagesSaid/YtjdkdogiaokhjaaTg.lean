/- Runs: Map out of range, or of no mapping; a page's place. -/
import Derived.Test.YtjdkdogiaokhjaaTd
namespace Go.Proofs.Ytjdkdogiaokhjaa
open Go.RowKit Go.Proofs
set_option linter.unusedSimpArgs false
set_option linter.unusedVariables false
attribute [local go_sem] Oper.semAt_some

set_option maxHeartbeats 400000 in
theorem caught_fault_in (b : Nat) (x e : Int) (w : World) (hc : w.cell? ⟨b, 0, none⟩ = some (.int .i64 x)) (hz : w.frozen? ⟨b, 0, none⟩ = false) :
    CallsDIn Fence.wide 0 Try.prog 49 #[.pointer (some ⟨b, 0, none⟩)] (.panicking (fault e)) w fun r u' w' =>
      r = .returned (.tuple #[]) ∧ u' = .panicking [{ v := .iface 95 (.int .i64 e), recovered := true }] ∧ w' = w.setCell ⟨b, 0, none⟩ (.int .i64 e) := by
  refine callsDIn_of_wpSIn Try.func49 rfl trivial fun c₀ cs hu => ?_
  simp only [Try.ntmps49, List.size_toArray, List.length_cons, List.length_nil, Nat.reduceAdd, Nat.reduceSub, Array.replicate_succ, Array.replicate_zero, List.push_toArray, List.append_toArray, List.nil_append, List.cons_append]
  apply wpSIn_seq
  apply wpSIn_region
  simp [wpOpsSIn, go_sem, recoverD, hu, fault, Exit.thenS]
  clear hu
  have hta := fun (v : Value) (W : World) => assert_fault v W
  refine wpSIn_of_wpIn rfl ?_
  gi_wp2
  exact ⟨rfl, _, rfl, _, results_none rfl _ _ _, rfl, rfl, rfl⟩
theorem door_fault_in {fn : Func} {tmps : Array Value} {R : Ending → World → Prop} {b : Nat} {x e : Int} {w : World} {v : Value} (hc : w.cell? ⟨b, 0, none⟩ = some (.int .i64 x)) (hz : w.frozen? ⟨b, 0, none⟩ = false)
    (hr : (results fn tmps).run Try.prog (w.setCell ⟨b, 0, none⟩ (.int .i64 e)) = .ok v (w.setCell ⟨b, 0, none⟩ (.int .i64 e))) (h : R (.returned v) (w.setCell ⟨b, 0, none⟩ (.int .i64 e))) :
    LeavesInM Fence.wide 0 Try.prog fn tmps R [{ target := .fn (.func 49) #[], args := #[.pointer (some ⟨b, 0, none⟩)] }] (.panicking (fault e)) w := by
  refine ⟨by simp, .inr ⟨by simp [Fence.wide], _, #[], 49, #[.pointer (some ⟨b, 0, none⟩)], rfl, by simp [go_sem], fun _ _ => trivial, ?_⟩⟩
  refine (caught_fault_in b x e w hc hz).mono ?_
  rintro r u' w'' ⟨rfl, rfl, rfl⟩
  exact ⟨v, hr, h⟩
def panics (X : List PanicEntry → Act → World → Prop) : Exit → Act → World → Prop
  | .panic ch, a, w => X ch a w
  | _, _, _ => False
theorem wp_panics {P : Program} {c : Code} {Q : Exit → Act → World → Prop} {a : Act} {w : World} (X : List PanicEntry → Act → World → Prop) (h : c.wp P (panics X) a w) (hk : ∀ ch a' w', X ch a' w' → Q (.panic ch) a' w') : c.wp P Q a w :=
  Code.wp_mono (fun e a' w' h => by cases e <;> first | exact h.elim | exact hk _ _ _ h) h
theorem MI.start (w : World) (page : Int) : MI w.heap.size w page 0 0 ((((w.alloc (.cells #[.int .i64 page] 3)).alloc (.cells #[.int .i64 0] 3)).alloc (.cells #[.int .i64 0] 3)).alloc (.cells #[.int .i64 0] 26)) := by
  refine ⟨((((Boxed.new w _ _).alloc _).alloc _).alloc _), ?_, ?_, ?_, ?_, by simp⟩
  · have := Boxed.new (w.alloc (.cells #[.int .i64 page] 3)) 3 (.int .i64 0)
    rw [World.size_alloc] at this
    exact (this.alloc _).alloc _
  · have := Boxed.new ((w.alloc (.cells #[.int .i64 page] 3)).alloc (.cells #[.int .i64 0] 3)) 3 (.int .i64 0)
    rw [World.size_alloc, World.size_alloc] at this
    exact this.alloc _
  · have := Boxed.new (((w.alloc (.cells #[.int .i64 page] 3)).alloc (.cells #[.int .i64 0] 3)).alloc (.cells #[.int .i64 0] 3)) 26 (.int .i64 0)
    rw [World.size_alloc, World.size_alloc, World.size_alloc] at this
    exact this
  · exact ((((Below.refl _ w).alloc (Nat.le_refl _) _).alloc (by simp) _).alloc (by simp; omega) _).alloc (by simp; omega) _
theorem MI.fault_ {n : Nat} {w W : World} {page : Int} {x : Int} (h : MI n w page 0 0 W) (hn : n = w.heap.size) :
    (W.setCell ⟨n + 1 + 1 + 1, 0, none⟩ (.int .i64 x)).cell? ⟨n + 1, 0, none⟩ = some (.int .i64 0) ∧ (W.setCell ⟨n + 1 + 1 + 1, 0, none⟩ (.int .i64 x)).cell? ⟨n + 1 + 1, 0, none⟩ = some (.int .i64 0) ∧
    (W.setCell ⟨n + 1 + 1 + 1, 0, none⟩ (.int .i64 x)).cell? ⟨n + 1 + 1 + 1, 0, none⟩ = some (.int .i64 x) ∧ Below w.heap.size w (W.setCell ⟨n + 1 + 1 + 1, 0, none⟩ (.int .i64 x)) := by
  subst hn
  refine ⟨?_, ?_, (h.b3.set _).cell, h.below.setCell (by simp; omega) _⟩
  · rw [World.cell?_setCell_other _ _ _ _ (by simp)]; exact h.b1.cell
  · rw [World.cell?_setCell_other _ _ _ _ (by simp)]; exact h.b2.cell
set_option maxRecDepth 100000 in
set_option maxHeartbeats 2000000 in
theorem Map_bad (A : Option Addr) (l : List R) (c : Nat) (page : Int) (w : World) (hR : Rd w A l) (hn : l.length ≤ 1048576) (h0 : mustE l ≠ 0) :
    Calls Try.prog 33 #[.slice A l.length c, .int .i64 page] w (ResN w 0 0 (mustE l)) := by
  have H0 := Lib.hid h0
  clear h0
  refine calls_of_wp_marks Try.func33 rfl ?_
  simp only [Try.ntmps33, List.size_toArray, List.length_cons, List.length_nil, Nat.reduceAdd, Nat.reduceSub, Array.replicate_succ, Array.replicate_zero, List.push_toArray, List.append_toArray, List.nil_append, List.cons_append]
  go_wp2_with fail
  have hmi := MI.start w page
  refine (must_no H0 (hR.below hmi.below) hn).mono ?_
  rintro e w1 ⟨rfl, hB⟩
  replace hmi := hmi.ext (Ext.of_below (O := fun _ => False) hB) (fun _ h => h.elim)
  clear hB
  go_wp2_with fail
  obtain ⟨e1, e2, e3, e4⟩ := hmi.fault_ (x := mustE l) rfl
  refine door_fault_in hmi.b3.cell hmi.b3.frozen (v := .tuple #[.int .i64 0, .int .i64 0, .int .i64 (mustE l)]) ?_ ⟨rfl, e4⟩
  simp [results, Try.results33, go_sem, e1, e2, e3]
set_option maxRecDepth 100000 in
set_option maxHeartbeats 2000000 in
theorem Map_range (A : Option Addr) (l : List R) (c : Nat) (page : Int) (w : World) (hR : Rd w A l) (hn : l.length ≤ 1048576) (h0 : mustE l = 0) (hp : ¬ (0 ≤ page ∧ page < sumR l)) :
    Calls Try.prog 33 #[.slice A l.length c, .int .i64 page] w (ResN w 0 0 24) := by
  have H0 := Lib.hid h0
  have hm := mild_of_must h0
  have HP := Lib.hid (fun W (hR : Rd W A l) => pages_any A l c W hR hn hm.fine.small)
  clear h0 hm
  by_cases hp0 : 0 ≤ page
  · have hp1 : ¬ page < sumR l := by omega
    have hd0 : decide (0 ≤ page) = true := by simpa using hp0
    have hd1 : decide (page < sumR l) = false := by simpa using hp1
    clear hp
    refine calls_of_wp_marks Try.func33 rfl ?_
    simp only [Try.ntmps33, List.size_toArray, List.length_cons, List.length_nil, Nat.reduceAdd, Nat.reduceSub, Array.replicate_succ, Array.replicate_zero, List.push_toArray, List.append_toArray, List.nil_append, List.cons_append]
    go_wp2_with fail
    have hmi := MI.start w page
    have hRl := hR.below hmi.below
    obtain ⟨wl, hwl⟩ : ∃ wl, (((w.alloc (.cells #[.int .i64 page] 3)).alloc (.cells #[.int .i64 0] 3)).alloc (.cells #[.int .i64 0] 3)).alloc (.cells #[.int .i64 0] 26) = wl := ⟨_, rfl⟩
    rw [hwl] at hmi hRl ⊢
    clear hwl
    refine (must_ok H0 hRl hn).mono ?_
    rintro e w1 ⟨rfl, hB⟩
    replace hmi := hmi.ext (Ext.of_below (O := fun _ => False) hB) (fun _ h => h.elim)
    replace hRl := hRl.below hB
    clear hB
    go_wp2_with fail
    have hmd : MI w.heap.size w page 0 0 w1.drew := hmi.ext (O := fun _ => False) ⟨rfl, rfl, rfl, Nat.le_refl _, fun _ _ _ => rfl⟩ (fun _ h => h.elim)
    have hRd : Rd w1.drew A l := hRl.below ⟨rfl, rfl, rfl, Nat.le_refl _, fun _ _ => rfl⟩
    have hcd := hmd.b0.cell
    refine wp_region_any (by kernel_rfl) ?_
    change wpAny _ _ _ _ _ _ _ (World.drew _)
    refine wpAny_ready (rs := [0]) (by kernel_rfl) (by simp) ?_
    refine AllReady.cons rfl (fun K hK => ?_) AllReady.nil
    go_simp
    refine hK _ _ ?_
    clear hK K
    refine wpAny_ready (rs := [1]) (by kernel_rfl) (by simp) ?_
    refine AllReady.cons rfl (fun K hK => ?_) AllReady.nil
    go_simp
    refine hK _ _ ?_
    clear hK K
    refine wpAny_ready (rs := [2]) (by kernel_rfl) (by simp) ?_
    refine AllReady.cons rfl (fun K hK => ?_) AllReady.nil
    go_simp
    refine hK _ _ ?_
    clear hK K
    refine wpAny_ready (rs := [3, 4]) (by kernel_rfl) (by simp) ?_
    refine AllReady.cons rfl (fun K hK => ?_) (AllReady.cons rfl (fun K hK => ?_) AllReady.nil)
    · go_simp
      refine hK _ _ ?_
      clear hK K
      refine wpAny_ready (rs := [4]) (by kernel_rfl) (by simp) ?_
      refine AllReady.cons rfl (fun K hK => ?_) AllReady.nil
      go_simp
      refine hK _ _ ?_
      clear hK K
      refine wpAny_ready (rs := [5]) (by kernel_rfl) (by simp) ?_
      refine AllReady.cons rfl (fun K hK => ?_) AllReady.nil
      go_simp
      refine (HP.out _ hRd).mono ?_
      rintro e w2 ⟨rfl, hB⟩
      have hmi2 := hmd.ext (Ext.of_below (O := fun _ => False) hB) (fun _ h => h.elim)
      have hcd2 := hmi2.b0.cell
      clear hB
      refine hK _ _ ?_
      clear hK K
      refine wpAny_ready (rs := [6]) (by kernel_rfl) (by simp) ?_
      refine AllReady.cons rfl (fun K hK => ?_) AllReady.nil
      go_simp
      refine hK _ _ ?_
      clear hK K
      refine wpAny_ready (rs := [7]) (by kernel_rfl) (by simp) ?_
      refine AllReady.cons rfl (fun K hK => ?_) AllReady.nil
      go_simp
      refine hK _ _ ?_
      clear hK K
      refine wpAny_ready (rs := [8]) (by kernel_rfl) (by simp) ?_
      refine AllReady.cons rfl (fun K hK => ?_) AllReady.nil
      go_simp
      refine (need_no 24 _).mono ?_
      rintro e w3 ⟨rfl, rfl⟩
      obtain ⟨e1, e2, e3, e4⟩ := hmi2.fault_ (x := 24) rfl
      refine door_fault_in hmi2.b3.cell hmi2.b3.frozen (v := .tuple #[.int .i64 0, .int .i64 0, .int .i64 24]) ?_ ⟨rfl, e4⟩
      simp [results, Try.results33, go_sem, e1, e2, e3]
    · go_simp
      refine hK _ _ ?_
      clear hK K
      refine wpAny_ready (rs := [3, 5]) (by kernel_rfl) (by simp) ?_
      refine AllReady.cons rfl (fun K hK => ?_) (AllReady.cons rfl (fun K hK => ?_) AllReady.nil)
      · go_simp
        refine hK _ _ ?_
        clear hK K
        refine wpAny_ready (rs := [5]) (by kernel_rfl) (by simp) ?_
        refine AllReady.cons rfl (fun K hK => ?_) AllReady.nil
        go_simp
        refine (HP.out _ hRd).mono ?_
        rintro e w2 ⟨rfl, hB⟩
        have hmi2 := hmd.ext (Ext.of_below (O := fun _ => False) hB) (fun _ h => h.elim)
        have hcd2 := hmi2.b0.cell
        clear hB
        refine hK _ _ ?_
        clear hK K
        refine wpAny_ready (rs := [6]) (by kernel_rfl) (by simp) ?_
        refine AllReady.cons rfl (fun K hK => ?_) AllReady.nil
        go_simp
        refine hK _ _ ?_
        clear hK K
        refine wpAny_ready (rs := [7]) (by kernel_rfl) (by simp) ?_
        refine AllReady.cons rfl (fun K hK => ?_) AllReady.nil
        go_simp
        refine hK _ _ ?_
        clear hK K
        refine wpAny_ready (rs := [8]) (by kernel_rfl) (by simp) ?_
        refine AllReady.cons rfl (fun K hK => ?_) AllReady.nil
        go_simp
        refine (need_no 24 _).mono ?_
        rintro e w3 ⟨rfl, rfl⟩
        obtain ⟨e1, e2, e3, e4⟩ := hmi2.fault_ (x := 24) rfl
        refine door_fault_in hmi2.b3.cell hmi2.b3.frozen (v := .tuple #[.int .i64 0, .int .i64 0, .int .i64 24]) ?_ ⟨rfl, e4⟩
        simp [results, Try.results33, go_sem, e1, e2, e3]
      · go_simp
        refine (HP.out _ hRd).mono ?_
        rintro e w2 ⟨rfl, hB⟩
        have hmi2 := hmd.ext (Ext.of_below (O := fun _ => False) hB) (fun _ h => h.elim)
        have hcd2 := hmi2.b0.cell
        clear hB
        refine hK _ _ ?_
        clear hK K
        refine wpAny_ready (rs := [3]) (by kernel_rfl) (by simp) ?_
        refine AllReady.cons rfl (fun K hK => ?_) AllReady.nil
        go_simp
        refine hK _ _ ?_
        clear hK K
        refine wpAny_ready (rs := [6]) (by kernel_rfl) (by simp) ?_
        refine AllReady.cons rfl (fun K hK => ?_) AllReady.nil
        go_simp
        refine hK _ _ ?_
        clear hK K
        refine wpAny_ready (rs := [7]) (by kernel_rfl) (by simp) ?_
        refine AllReady.cons rfl (fun K hK => ?_) AllReady.nil
        go_simp
        refine hK _ _ ?_
        clear hK K
        refine wpAny_ready (rs := [8]) (by kernel_rfl) (by simp) ?_
        refine AllReady.cons rfl (fun K hK => ?_) AllReady.nil
        go_simp
        refine (need_no 24 _).mono ?_
        rintro e w3 ⟨rfl, rfl⟩
        obtain ⟨e1, e2, e3, e4⟩ := hmi2.fault_ (x := 24) rfl
        refine door_fault_in hmi2.b3.cell hmi2.b3.frozen (v := .tuple #[.int .i64 0, .int .i64 0, .int .i64 24]) ?_ ⟨rfl, e4⟩
        simp [results, Try.results33, go_sem, e1, e2, e3]
  · have hd0 : decide (0 ≤ page) = false := by simpa using hp0
    clear hp
    refine calls_of_wp_marks Try.func33 rfl ?_
    simp only [Try.ntmps33, List.size_toArray, List.length_cons, List.length_nil, Nat.reduceAdd, Nat.reduceSub, Array.replicate_succ, Array.replicate_zero, List.push_toArray, List.append_toArray, List.nil_append, List.cons_append]
    go_wp2_with fail
    have hmi := MI.start w page
    have hRl := hR.below hmi.below
    obtain ⟨wl, hwl⟩ : ∃ wl, (((w.alloc (.cells #[.int .i64 page] 3)).alloc (.cells #[.int .i64 0] 3)).alloc (.cells #[.int .i64 0] 3)).alloc (.cells #[.int .i64 0] 26) = wl := ⟨_, rfl⟩
    rw [hwl] at hmi hRl ⊢
    clear hwl
    refine (must_ok H0 hRl hn).mono ?_
    rintro e w1 ⟨rfl, hB⟩
    replace hmi := hmi.ext (Ext.of_below (O := fun _ => False) hB) (fun _ h => h.elim)
    replace hRl := hRl.below hB
    clear hB
    go_wp2_with fail
    have hmd : MI w.heap.size w page 0 0 w1.drew := hmi.ext (O := fun _ => False) ⟨rfl, rfl, rfl, Nat.le_refl _, fun _ _ _ => rfl⟩ (fun _ h => h.elim)
    have hRd : Rd w1.drew A l := hRl.below ⟨rfl, rfl, rfl, Nat.le_refl _, fun _ _ => rfl⟩
    have hcd := hmd.b0.cell
    refine wp_region_any (by kernel_rfl) ?_
    change wpAny _ _ _ _ _ _ _ (World.drew _)
    refine wpAny_ready (rs := [0]) (by kernel_rfl) (by simp) ?_
    refine AllReady.cons rfl (fun K hK => ?_) AllReady.nil
    go_simp
    refine hK _ _ ?_
    clear hK K
    refine wpAny_ready (rs := [1]) (by kernel_rfl) (by simp) ?_
    refine AllReady.cons rfl (fun K hK => ?_) AllReady.nil
    go_simp
    refine hK _ _ ?_
    clear hK K
    refine wpAny_ready (rs := [2]) (by kernel_rfl) (by simp) ?_
    refine AllReady.cons rfl (fun K hK => ?_) AllReady.nil
    go_simp
    refine hK _ _ ?_
    clear hK K
    refine wpAny_ready (rs := [3, 4]) (by kernel_rfl) (by simp) ?_
    refine AllReady.cons rfl (fun K hK => ?_) (AllReady.cons rfl (fun K hK => ?_) AllReady.nil)
    · go_simp
      refine hK _ _ ?_
      clear hK K
      refine wpAny_ready (rs := [4]) (by kernel_rfl) (by simp) ?_
      refine AllReady.cons rfl (fun K hK => ?_) AllReady.nil
      go_simp
      refine hK _ _ ?_
      clear hK K
      refine wpAny_ready (rs := [5]) (by kernel_rfl) (by simp) ?_
      refine AllReady.cons rfl (fun K hK => ?_) AllReady.nil
      go_simp
      refine hK _ _ ?_
      clear hK K
      refine wpAny_ready (rs := [6]) (by kernel_rfl) (by simp) ?_
      refine AllReady.cons rfl (fun K hK => ?_) AllReady.nil
      go_simp
      refine hK _ _ ?_
      clear hK K
      refine wpAny_ready (rs := [7]) (by kernel_rfl) (by simp) ?_
      refine AllReady.cons rfl (fun K hK => ?_) AllReady.nil
      go_simp
      refine hK _ _ ?_
      clear hK K
      refine wpAny_ready (rs := [8]) (by kernel_rfl) (by simp) ?_
      refine AllReady.cons rfl (fun K hK => ?_) AllReady.nil
      go_simp
      refine (need_no 24 _).mono ?_
      rintro e w3 ⟨rfl, rfl⟩
      obtain ⟨e1, e2, e3, e4⟩ := hmd.fault_ (x := 24) rfl
      refine door_fault_in hmd.b3.cell hmd.b3.frozen (v := .tuple #[.int .i64 0, .int .i64 0, .int .i64 24]) ?_ ⟨rfl, e4⟩
      simp [results, Try.results33, go_sem, e1, e2, e3, hmi.b1.cell, hmi.b2.cell, (hmi.b3.set _).cell]
    · go_simp
      refine hK _ _ ?_
      clear hK K
      refine wpAny_ready (rs := [3, 5]) (by kernel_rfl) (by simp) ?_
      refine AllReady.cons rfl (fun K hK => ?_) (AllReady.cons rfl (fun K hK => ?_) AllReady.nil)
      · go_simp
        refine hK _ _ ?_
        clear hK K
        refine wpAny_ready (rs := [5]) (by kernel_rfl) (by simp) ?_
        refine AllReady.cons rfl (fun K hK => ?_) AllReady.nil
        go_simp
        refine hK _ _ ?_
        clear hK K
        refine wpAny_ready (rs := [6]) (by kernel_rfl) (by simp) ?_
        refine AllReady.cons rfl (fun K hK => ?_) AllReady.nil
        go_simp
        refine hK _ _ ?_
        clear hK K
        refine wpAny_ready (rs := [7]) (by kernel_rfl) (by simp) ?_
        refine AllReady.cons rfl (fun K hK => ?_) AllReady.nil
        go_simp
        refine hK _ _ ?_
        clear hK K
        refine wpAny_ready (rs := [8]) (by kernel_rfl) (by simp) ?_
        refine AllReady.cons rfl (fun K hK => ?_) AllReady.nil
        go_simp
        refine (need_no 24 _).mono ?_
        rintro e w3 ⟨rfl, rfl⟩
        obtain ⟨e1, e2, e3, e4⟩ := hmd.fault_ (x := 24) rfl
        refine door_fault_in hmd.b3.cell hmd.b3.frozen (v := .tuple #[.int .i64 0, .int .i64 0, .int .i64 24]) ?_ ⟨rfl, e4⟩
        simp [results, Try.results33, go_sem, e1, e2, e3, hmi.b1.cell, hmi.b2.cell, (hmi.b3.set _).cell]
      · go_simp
        refine hK _ _ ?_
        clear hK K
        refine wpAny_ready (rs := [3]) (by kernel_rfl) (by simp) ?_
        refine AllReady.cons rfl (fun K hK => ?_) AllReady.nil
        go_simp
        refine hK _ _ ?_
        clear hK K
        refine wpAny_ready (rs := [6]) (by kernel_rfl) (by simp) ?_
        refine AllReady.cons rfl (fun K hK => ?_) AllReady.nil
        go_simp
        refine hK _ _ ?_
        clear hK K
        refine wpAny_ready (rs := [7]) (by kernel_rfl) (by simp) ?_
        refine AllReady.cons rfl (fun K hK => ?_) AllReady.nil
        go_simp
        refine hK _ _ ?_
        clear hK K
        refine wpAny_ready (rs := [8]) (by kernel_rfl) (by simp) ?_
        refine AllReady.cons rfl (fun K hK => ?_) AllReady.nil
        go_simp
        refine (need_no 24 _).mono ?_
        rintro e w3 ⟨rfl, rfl⟩
        obtain ⟨e1, e2, e3, e4⟩ := hmd.fault_ (x := 24) rfl
        refine door_fault_in hmd.b3.cell hmd.b3.frozen (v := .tuple #[.int .i64 0, .int .i64 0, .int .i64 24]) ?_ ⟨rfl, e4⟩
        simp [results, Try.results33, go_sem, e1, e2, e3, hmi.b1.cell, hmi.b2.cell, (hmi.b3.set _).cell]
end Go.Proofs.Ytjdkdogiaokhjaa
