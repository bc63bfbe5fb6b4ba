/- Runs: the specification's Add, where nothing is put behind. -/
import Derived.Test.YtjdkdogiaokhjaaRu
import Derived.StillTailTactics
namespace Go.Proofs.Ytjdkdogiaokhjaa
open Go.RowKit Go.Proofs
set_option linter.unusedSimpArgs false
set_option linter.unusedVariables false

def AddPost (w : World) (l : List R) (e : Ending) (w' : World) : Prop := ∃ A' c', e = .returned (.slice A' l.length c') ∧ Rd w' A' l ∧ Below w.heap.size w w'
theorem own_empty (W : World) (base : Nat) (hb : base ≤ W.heap.size) : OwnR (W.alloc (.cells #[] 53)) base (.slice (some ⟨W.heap.size, 0, none⟩) 0 0) [] :=
  ⟨by simp [rv], .inr ⟨W.heap.size, 0, #[], rfl, hb, World.alloc_heap_new W _, by simp, by simp [maxLen], by simp, by simp [rv]⟩⟩
theorem wp_region_still_ext {P : Program} {id : Nat} {Q : Exit → Act → World → Prop} {a : Act} {w : World} {l : List Oper} (n : Nat) (hm : P.follows .mixedOrders = true) (hB : Region.lexTailB .any l.toArray n = true)
    (h : ∀ wd : World, Below w.heap.size w wd → (∀ p, wd.cell? p = w.cell? p) → (∀ p, wd.frozen? p = w.frozen? p) → wd.heap.size = w.heap.size → wpStill P l.toArray wd (fun a' => wpList P l.toArray Q (l.drop n) a' wd) (l.take n) a) : (Code.region id l.toArray true).wp P Q a w :=
  wp_region_still_tail n hm hB (h _ ⟨rfl, rfl, rfl, Nat.le_refl _, fun _ _ => rfl⟩ (fun _ => rfl) (fun _ => rfl) rfl)
theorem Rd.glued {w : World} {g : Nat} {l : List R} {x : R} (h : Rd w (some ⟨g, 0, none⟩) (l ++ [x])) (y : Int) : Rd (w.setCell ⟨g, l.length * 2 + 1, none⟩ (.int .i64 y)) (some ⟨g, 0, none⟩) (l ++ [(x.1, y)]) := fun _ => by
  refine ⟨g, 0, rfl, fun i hi => ?_⟩
  have hi' : i < (l ++ [x]).length := by simpa using hi
  obtain ⟨b', o', e, d1, d2⟩ := h.at_ i hi'
  cases e
  by_cases hl : i < l.length
  · simp only [List.getElem_append_left hl] at d1 d2 ⊢
    refine ⟨?_, ?_⟩
    · rw [World.cell?_setCell_other _ _ _ _ (fun e => by simp only [Addr.mk.injEq] at e; omega)]; exact d1
    · rw [World.cell?_setCell_other _ _ _ _ (fun e => by simp only [Addr.mk.injEq] at e; omega)]; exact d2
  · have hil : i = l.length := by simp at hi; omega
    subst hil
    simp only [List.getElem_append_right (Nat.le_refl _), Nat.sub_self, List.getElem_cons_zero] at d1 d2 ⊢
    rw [Nat.zero_add] at d1 d2 ⊢
    refine ⟨?_, ?_⟩
    · rw [World.cell?_setCell_other _ _ _ _ (by simp)]; exact d1
    · exact World.cell?_setCell_same' _ _ _ (by rw [d2]; rfl)
theorem rv_one (l : List R) : ∀ u ∈ rv l, u.oneCell' = true := by
  intro u hu
  simp only [rv, List.mem_flatMap, List.mem_cons, List.not_mem_nil, or_false] at hu
  obtain ⟨r, _, rfl | rfl⟩ := hu <;> rfl
theorem Rd.news {w : World} {b o : Nat} {l : List R} (h : Rd w (some ⟨b, o, none⟩) l) : ∀ j u, (rv l)[j]? = some u → w.cell? ((⟨b, o, none⟩ : Addr).add j) = some u := by
  intro j u hj
  have ha : (⟨b, o, none⟩ : Addr).add j = ⟨b, o + j, none⟩ := by unfold Addr.add; split <;> simp_all
  have hlt : j < l.length * 2 := by
    have := (List.getElem?_eq_some_iff.1 hj).1
    have hl : (rv l).length = l.length * 2 := by clear hj this ha h; induction l with | nil => rfl | cons x xs ih => simp [rv] at ih ⊢; omega
    omega
  have hi : j / 2 < l.length := by omega
  obtain ⟨b', o', e, d1, d2⟩ := h.at_ (j / 2) hi
  cases e
  obtain ⟨r1, r2⟩ := rv_get l (j / 2) hi
  rw [ha]
  by_cases he : j % 2 = 0
  · have ej : j = j / 2 * 2 := by omega
    rw [ej] at hj ⊢
    rw [r1] at hj
    cases hj
    have : j / 2 * 2 / 2 = j / 2 := by omega
    simp only [this] at *
    exact d1
  · have ej : j = j / 2 * 2 + 1 := by omega
    rw [ej] at hj ⊢
    rw [r2] at hj
    cases hj
    have : (j / 2 * 2 + 1) / 2 = j / 2 := by omega
    rw [← Nat.add_assoc]
    simp only [this] at *
    exact d2
theorem refAdd_zero' (A : Option Addr) (l : List R) (c : Nat) (to : Int) (w : World) (hR : Rd w A l) :
    Calls Try.prog 58 #[.slice A l.length c, .agg #[.int .i64 to, .int .i64 0]] w fun e w' => e = .returned (.slice A l.length c) ∧ Rd w' A l ∧ Below w.heap.size w w' := by
  have hR2 := hR.below (below_alloc1 w (.cells #[.int .i64 to, .int .i64 0] 53))
  go_enter Try.func58, Try.ntmps58
  go_wp2
  go_ret
  exact ⟨rfl, hR2, below_alloc1 w _⟩
set_option maxRecDepth 100000 in
set_option maxHeartbeats 2000000 in
theorem refAdd_glued (A : Option Addr) (l : List R) (x : R) (c : Nat) (to many : Int) (w : World) (hR : Rd w A (l ++ [x])) (hn : l.length ≤ 1048575) (hm : many ≠ 0) (hg : glue x (to, many) = true)
    (hx : -1 ≤ x.1 ∧ x.1 ≤ 1099511627776 ∧ 0 ≤ x.2 ∧ x.2 ≤ 1099511627776) (ht : -1 ≤ to ∧ to ≤ 1099511627776 ∧ 0 ≤ many ∧ many ≤ 1099511627776) :
    Calls Try.prog 58 #[.slice A (l.length + 1) c, .agg #[.int .i64 to, .int .i64 many]] w (AddPost w (l ++ [(x.1, x.2 + many)])) := by
  obtain ⟨i0, hi, hz0, hz1, hz2⟩ := info_parts Try.info_run
  have hm' : (many == 0) = false := by simp [hm]
  have hR1 := hR.below (below_alloc1 w (.cells #[.int .i64 to, .int .i64 many] 53))
  obtain ⟨b, o, rfl, c1, c2⟩ := hR1.at_ l.length (by simp)
  simp only [List.getElem_append_right (Nat.le_refl _), Nat.sub_self, List.getElem_cons_zero] at c1 c2
  obtain ⟨x1, x2⟩ := x
  obtain ⟨hx1, hx2, hx3, hx4⟩ := hx
  obtain ⟨ht1, ht2, ht3, ht4⟩ := ht
  simp only at c1 c2 hx1 hx2 hx3 hx4
  have hgg : (x1 = -1 ∧ to = -1) ∨ (0 ≤ x1 ∧ x1 ≠ -1 ∧ to = x1 + x2) := by
    simp [glue] at hg
    omega
  clear hg
  rcases hgg with ⟨rfl, rfl⟩ | ⟨g1, g2, rfl⟩
  · have HW := own_empty ((w.alloc (.cells #[.int .i64 (-1), .int .i64 many] 53)).alloc (.cells #[.int .i64 (-1), .int .i64 x2] 53)) w.heap.size (by simp; omega)
    rw [World.size_alloc, World.size_alloc] at HW
    have HN := (((hR1.below (below_alloc1 _ (.cells #[.int .i64 (-1), .int .i64 x2] 53))).below (below_alloc1 _ (.cells #[] 53)))).news
    have HO : ∀ u ∈ rv (l ++ [(-1, x2)]), u.oneCell' = true := rv_one _
    have HL : (rv (l ++ [(-1, x2)])).length = (l.length + 1) * 2 := by rw [rv_length]; simp
    have HHW := Lib.hid HW
    have HHN := Lib.hid HN
    have HHO := Lib.hid HO
    have HHL := Lib.hid HL
    have hbw : w.heap.size ≤ (((w.alloc (.cells #[.int .i64 (-1), .int .i64 many] 53)).alloc (.cells #[.int .i64 (-1), .int .i64 x2] 53)).alloc (.cells #[] 53)).heap.size := by simp; omega
    clear HW HN HO HL
    go_enter Try.func58, Try.ntmps58
    go_wp2_with (at_builtin; refine wpList_append_own _ rfl _ _ 22 rfl w.heap.size 53 i0 (.agg #[.int .i64 0, .int .i64 0]) 2 16 Try.underlying22 hi hz0 hz1 hz2 rfl (by decide) _ _ _ rfl HHW.out ⟨b, o, none⟩ (l.length + 1) c (rv (l ++ [(-1, x2)])) rfl HHL.out HHN.out HHO.out (by unfold maxLen; simp; omega) (by simp; omega) hbw ?_; intro v1 w1 hown1 hgrow _; obtain ⟨g1, cap1, rfl⟩ := ownsRow_succ (show w1.ownsRow w.heap.size 53 2 v1 (l.length + 1) (rv (l ++ [(-1, x2)])) by simpa [rv] using hown1))
    have hown2 : w1.ownsRow w.heap.size 53 2 (.slice (some ⟨g1, 0, none⟩) (l.length + 1) cap1) (l.length + 1) (rv (l ++ [(-1, x2)])) := by simpa [rv] using hown1
    obtain ⟨k1, k2, k3, k4, k5, k6⟩ := own_last hown2
    have k3' := k3 (l.length * 2 + 1)
    have m1 : w1.cell? ⟨w.heap.size, 1, none⟩ = some (.int .i64 many) := by
      rw [World.cell?_of_block (hgrow.block w.heap.size (by simp; omega) (by simp [Act.eval, Value.ownBlock]; omega))]
      simp [go_sem]
    refine wp_region_still_ext 12 (by kernel_rfl) (by kernel_rfl) fun wd hbd hcd hfd hsd => ?_
    have k1d := (hcd _).trans k1
    have k2d := (hcd _).trans k2
    have k3d := (hfd _).trans k3'
    have m1d := (hcd _).trans m1
    simp only [List.take_succ_cons, List.take_zero, List.drop_succ_cons, List.drop_zero]
    have hwl : IntKind.i64.wrap (l.length : Int) = l.length := wrap_id (by omega) (by omega)
    have hwm : IntKind.i64.wrap (x2 + many) = x2 + many := wrap_id (by omega) (by omega)
    have hl0 : (0 : Int) ≤ (l.length : Int) := by omega
    have hl1 : (l.length : Int) < (l.length : Int) + 1 := by omega
    repeat still_step
    refine wpStill_nil ?_
    go_wp2
    go_ret
    have hrd : Rd w1 (some ⟨g1, 0, none⟩) (l ++ [(-1, x2)]) := by
      have hof := own_form (l := l ++ [(-1, x2)]) (by simpa using hown2)
      obtain ⟨A2, c2', e, _, _, h⟩ := hof
      simp only [Value.slice.injEq] at e
      obtain ⟨rfl, _⟩ := e
      exact h
    have hb3 : Below w.heap.size w w1 := ((((below_alloc1 w (.cells #[.int .i64 (-1), .int .i64 many] 53)).trans ((below_alloc1 _ (.cells #[.int .i64 (-1), .int .i64 x2] 53)).mono (by simp))).trans ((below_alloc1 _ (.cells #[] 53)).mono (by simp; omega)))).trans (below_grown hgrow HHW.out hbw)
    exact ⟨some ⟨g1, 0, none⟩, cap1, by simp, (hrd.below hbd).glued (x := (-1, x2)) (x2 + many), (hb3.trans (hbd.mono hb3.size)).setCell k4 _⟩
  · have HW := own_empty ((w.alloc (.cells #[.int .i64 (x1 + x2), .int .i64 many] 53)).alloc (.cells #[.int .i64 x1, .int .i64 x2] 53)) w.heap.size (by simp; omega)
    rw [World.size_alloc, World.size_alloc] at HW
    have HN := (((hR1.below (below_alloc1 _ (.cells #[.int .i64 x1, .int .i64 x2] 53))).below (below_alloc1 _ (.cells #[] 53)))).news
    have HO : ∀ u ∈ rv (l ++ [(x1, x2)]), u.oneCell' = true := rv_one _
    have HL : (rv (l ++ [(x1, x2)])).length = (l.length + 1) * 2 := by rw [rv_length]; simp
    have HHW := Lib.hid HW
    have HHN := Lib.hid HN
    have HHO := Lib.hid HO
    have HHL := Lib.hid HL
    have hbw : w.heap.size ≤ (((w.alloc (.cells #[.int .i64 (x1 + x2), .int .i64 many] 53)).alloc (.cells #[.int .i64 x1, .int .i64 x2] 53)).alloc (.cells #[] 53)).heap.size := by simp; omega
    clear HW HN HO HL
    have hq1 : (x1 == -1) = false := by simpa using g2
    go_enter Try.func58, Try.ntmps58
    go_wp2_with (at_builtin; refine wpList_append_own _ rfl _ _ 22 rfl w.heap.size 53 i0 (.agg #[.int .i64 0, .int .i64 0]) 2 16 Try.underlying22 hi hz0 hz1 hz2 rfl (by decide) _ _ _ rfl HHW.out ⟨b, o, none⟩ (l.length + 1) c (rv (l ++ [(x1, x2)])) rfl HHL.out HHN.out HHO.out (by unfold maxLen; simp; omega) (by simp; omega) hbw ?_; intro v1 w1 hown1 hgrow _; obtain ⟨g1, cap1, rfl⟩ := ownsRow_succ (show w1.ownsRow w.heap.size 53 2 v1 (l.length + 1) (rv (l ++ [(x1, x2)])) by simpa [rv] using hown1))
    have hown2 : w1.ownsRow w.heap.size 53 2 (.slice (some ⟨g1, 0, none⟩) (l.length + 1) cap1) (l.length + 1) (rv (l ++ [(x1, x2)])) := by simpa [rv] using hown1
    obtain ⟨k1, k2, k3, k4, k5, k6⟩ := own_last hown2
    have k3' := k3 (l.length * 2 + 1)
    have m1 : w1.cell? ⟨w.heap.size, 1, none⟩ = some (.int .i64 many) := by
      rw [World.cell?_of_block (hgrow.block w.heap.size (by simp; omega) (by simp [Act.eval, Value.ownBlock]; omega))]
      simp [go_sem]
    refine wp_region_still_ext 12 (by kernel_rfl) (by kernel_rfl) fun wd hbd hcd hfd hsd => ?_
    have k1d := (hcd _).trans k1
    have k2d := (hcd _).trans k2
    have k3d := (hfd _).trans k3'
    have m1d := (hcd _).trans m1
    simp only [List.take_succ_cons, List.take_zero, List.drop_succ_cons, List.drop_zero]
    have hwl : IntKind.i64.wrap (l.length : Int) = l.length := wrap_id (by omega) (by omega)
    have hwm : IntKind.i64.wrap (x2 + many) = x2 + many := wrap_id (by omega) (by omega)
    have hl0 : (0 : Int) ≤ (l.length : Int) := by omega
    have hl1 : (l.length : Int) < (l.length : Int) + 1 := by omega
    repeat still_step
    refine wpStill_nil ?_
    go_wp2
    go_ret
    have hrd : Rd w1 (some ⟨g1, 0, none⟩) (l ++ [(x1, x2)]) := by
      have hof := own_form (l := l ++ [(x1, x2)]) (by simpa using hown2)
      obtain ⟨A2, c2', e, _, _, h⟩ := hof
      simp only [Value.slice.injEq] at e
      obtain ⟨rfl, _⟩ := e
      exact h
    have hb3 : Below w.heap.size w w1 := ((((below_alloc1 w (.cells #[.int .i64 (x1 + x2), .int .i64 many] 53)).trans ((below_alloc1 _ (.cells #[.int .i64 x1, .int .i64 x2] 53)).mono (by simp))).trans ((below_alloc1 _ (.cells #[] 53)).mono (by simp; omega)))).trans (below_grown hgrow HHW.out hbw)
    exact ⟨some ⟨g1, 0, none⟩, cap1, by simp, (hrd.below hbd).glued (x := (x1, x2)) (x2 + many), (hb3.trans (hbd.mono hb3.size)).setCell k4 _⟩
end Go.Proofs.Ytjdkdogiaokhjaa
