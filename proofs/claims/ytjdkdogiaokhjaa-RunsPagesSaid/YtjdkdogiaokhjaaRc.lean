/- Runs: the joiner: its two closures, 'joined'. -/
import Derived.Test.YtjdkdogiaokhjaaRb
import Derived.Test.YtjdkdogiaokhjaaRf
import Derived.RangeFuncBox
import Derived.Maps.AppendAt
import Derived.RegionTactic
import Derived.BigRegion
namespace Go.Proofs.Ytjdkdogiaokhjaa
open Go.RowKit Go.Proofs
set_option linter.unusedSimpArgs false
set_option linter.unusedVariables false

theorem Try.info_run : (Try.prog.info? 53).map (fun i => (i.zero, i.size, i.bytes)) = some (some (.agg #[.int .i64 0, .int .i64 0]), 2, 16) := by kernel_rfl

/-- box B holds v, and v owns the rows l -/
def JS (w : World) (base B : Nat) (v : Value) (l : List R) : Prop := base ≤ B ∧ Boxed w B 22 v ∧ w.ownsRow base 53 2 v l.length (rv l)
def touch (B : Nat) (v : Value) (k : Nat) : Prop := k = B ∨ some k = v.ownBlock

theorem own_form {w : World} {base : Nat} {v : Value} {l : List R} (h : w.ownsRow base 53 2 v l.length (rv l)) :
    ∃ A c, v = .slice A l.length c ∧ l.length ≤ c ∧ c ≤ maxLen ∧ Rd w A l := by
  have h0 := h
  rcases h.2 with ⟨rfl, h1⟩ | ⟨g, cap, cur, rfl, hb, hg, hnc, hcm, hcs, ht⟩
  · have : l = [] := List.eq_nil_of_length_eq_zero h1
    subst this
    exact ⟨none, 0, rfl, Nat.le_refl _, by simp [maxLen], Rd.nil _ _⟩
  · refine ⟨_, cap, rfl, hnc, hcm, fun _ => ⟨g, 0, rfl, fun i hi => ?_⟩⟩
    obtain ⟨r1, r2⟩ := rv_get l i hi
    have c1 := h0.cells (g := g) rfl _ _ r1
    have c2 := h0.cells (g := g) rfl _ _ r2
    have ha : ∀ j, (⟨g, 0, none⟩ : Addr).add j = ⟨g, 0 + j, none⟩ := fun j => by unfold Addr.add; split <;> simp_all
    rw [ha] at c1 c2
    exact ⟨c1, by rw [Nat.add_assoc]; exact c2⟩

set_option maxRecDepth 100000 in
set_option maxHeartbeats 1000000 in
theorem add_zero (base B : Nat) (v : Value) (l : List R) (to : Int) (w : World) (hJ : JS w base B v l) :
    Calls Try.prog 77 #[.agg #[.int .i64 to, .int .i64 0], .pointer (some ⟨B, 0, none⟩)] w fun e w' => e = .returned (.tuple #[]) ∧ w' = w.alloc (.cells #[.int .i64 to, .int .i64 0] 53) := by
  go_enter Try.func77, Try.ntmps77
  go_wp2
  first | go_end0 | refine bodyPost_ret (results_none rfl _ _ _) rfl ?_
  exact ⟨rfl, rfl⟩
theorem cells_new (W : World) (xs : List Value) (T : TypeId) : ∀ j u, xs[j]? = some u → (W.alloc (.cells xs.toArray T)).cell? ((⟨W.heap.size, 0, none⟩ : Addr).add j) = some u := by
  intro j u h
  have ha : (⟨W.heap.size, 0, none⟩ : Addr).add j = ⟨W.heap.size, j, none⟩ := by unfold Addr.add; split <;> simp_all
  rw [ha, cell_of_row _ _ j _ _ (0, 0) (heap_alloc_new W _)]
  simpa using h
theorem one_int (k : IntKind) (l : List Int) : ∀ u ∈ l.map (Value.int k), u.oneCell' = true := by
  intro u hu
  obtain ⟨x, _, rfl⟩ := List.mem_map.1 hu
  rfl
theorem ext_below {O : Nat → Prop} {A B : World} (h : Ext O A B) (base : Nat) (hb : base ≤ A.heap.size) (ho : ∀ k, O k → base ≤ k) : Below base A B :=
  ⟨h.os, h.tape, h.output, by have := h.size; omega, fun i hi => h.block i (by omega) (fun hk => by have := ho i hk; omega)⟩
theorem touch_ge {w : World} {base B : Nat} {v : Value} {l : List R} (h : JS w base B v l) : ∀ k, touch B v k → base ≤ k := by
  rintro k (rfl | hk)
  · exact h.1
  · exact (h.2.2.lt k hk.symm).1
theorem touch_lt {w : World} {base B : Nat} {v : Value} {l : List R} (h : JS w base B v l) : ∀ k, touch B v k → k < w.heap.size := by
  rintro k (rfl | hk)
  · exact h.2.1.lt
  · exact (h.2.2.lt k hk.symm).2
theorem ext_of_grown {w w1 : World} {row : Option Nat} (h : w.grownBy w1 row) : Ext (fun k => some k = row) w w1 := ⟨h.os, h.tape, h.output, h.size, fun k hk hn => h.block k hk hn⟩
theorem ext_setCell (w : World) (B : Nat) (u : Value) : Ext (fun k => k = B) w (w.setCell ⟨B, 0, none⟩ u) := by
  have h := grownBy_setCell' w B u
  exact ⟨h.os, h.tape, h.output, h.size, fun k hk hn => h.block k hk (fun e => hn (by injection e))⟩
/-- what the walk owes behind 'out = append(out, r)' -/
theorem JS.pushed {w w1 : World} {base B : Nat} {v v1 : Value} {l : List R} {r : R} {o1 o2 : Obj} (h : JS w base B v l) (hown : w1.ownsRow base 53 2 v1 (l.length + 1) (rv l ++ [.int .i64 r.1, .int .i64 r.2]))
    (hg : ((w.alloc o1).alloc o2).grownBy w1 v.ownBlock) :
    w1.cell? ⟨B, 0, none⟩ = some v ∧ w1.frozen? ⟨B, 0, none⟩ = false ∧ JS (w1.setCell ⟨B, 0, none⟩ v1) base B v1 (l ++ [r]) ∧ Ext (touch B v) w (w1.setCell ⟨B, 0, none⟩ v1) := by
  obtain ⟨hB, hx, ho⟩ := h
  have hx1 : Boxed w1 B 22 v := ((hx.alloc o1).alloc o2).kept hg (hx.not_row (by decide) ho)
  have e : (l ++ [r]).length = l.length + 1 := by simp
  have e2 : rv (l ++ [r]) = rv l ++ [.int .i64 r.1, .int .i64 r.2] := by simp [rv]
  refine ⟨hx1.cell, hx1.frozen, ⟨hB, hx1.set v1, ?_⟩, ?_⟩
  · rw [e, e2]
    exact hown.kept (grownBy_setCell' w1 B v1) (.inr (hx1.not_row (by decide) hown).symm)
  · exact ((((Ext.refl (touch B v) w).alloc o1).alloc o2).trans ((ext_of_grown hg).mono fun k hk => .inr hk)).trans ((ext_setCell w1 B v1).mono fun k hk => .inl hk)
set_option maxRecDepth 100000 in
set_option maxHeartbeats 1000000 in
theorem add_first (base B : Nat) (v : Value) (to many : Int) (w : World) (hJ : JS w base B v []) (hm : many ≠ 0) (hbase : base ≤ w.heap.size) :
    Calls Try.prog 77 #[.agg #[.int .i64 to, .int .i64 many], .pointer (some ⟨B, 0, none⟩)] w fun e w' => e = .returned (.tuple #[]) ∧ ∃ v', JS w' base B v' [(to, many)] ∧ Ext (touch B v) w w' := by
  obtain ⟨i0, hi, hz0, hz1, hz2⟩ := info_parts Try.info_run
  have hJ0 := hJ
  obtain ⟨hB, hx, hown⟩ := hJ
  obtain ⟨A, c, rfl, hc, hcm, hR⟩ := own_form hown
  have c1 := hx.cell
  have f1 := hx.frozen
  have hm' : (many == 0) = false := by simp [hm]
  have hlt := hx.lt
  have hown2 : ((w.alloc (.cells #[.int .i64 to, .int .i64 many] 53)).alloc (.cells #[.int .i64 to, .int .i64 many] 53)).ownsRow base 53 2 (.slice A 0 c) 0 [] := (hown.alloc _).alloc _
  have hJ1 : JS w base B (.slice A 0 c) [] := hJ0
  clear hJ0
  have hnews := cells_new (w.alloc (.cells #[.int .i64 to, .int .i64 many] 53)) [.int .i64 to, .int .i64 many] 53
  rw [World.size_alloc] at hnews
  have hone := one_int .i64 [to, many]
  have HN := Lib.hid hnews
  have HO := Lib.hid hone
  clear hnews hone
  go_enter Try.func77, Try.ntmps77
  go_wp2_with (at_builtin; refine wpList_append_own _ rfl _ _ 22 rfl base 53 i0 (.agg #[.int .i64 0, .int .i64 0]) 2 16 Try.underlying22 hi hz0 hz1 hz2 rfl (by decide) _ 0 [] rfl hown2 ⟨w.heap.size + 1, 0, none⟩ 1 1 [.int .i64 to, .int .i64 many] rfl rfl HN.out HO.out (by simp [maxLen]) (by simp) (by simp; omega) ?_; intro v1 w1 hown1 hgrow _; obtain ⟨g1, cap1, rfl⟩ := ownsRow_succ hown1; obtain ⟨hb1, hb2, hb3, hb4⟩ := hJ1.pushed (r := (to, many)) hown1 hgrow)
  go_end0
  exact ⟨rfl, _, hb3, hb4⟩
theorem own_last {w : World} {base g cap : Nat} {l : List R} {x : R} (h : w.ownsRow base 53 2 (.slice (some ⟨g, 0, none⟩) (l.length + 1) cap) (l.length + 1) (rv (l ++ [x]))) :
    w.cell? ⟨g, l.length * 2, none⟩ = some (.int .i64 x.1) ∧ w.cell? ⟨g, l.length * 2 + 1, none⟩ = some (.int .i64 x.2) ∧ (∀ o, w.frozen? ⟨g, o, none⟩ = false) ∧ base ≤ g ∧ l.length + 1 ≤ cap ∧ cap ≤ maxLen := by
  have ha : ∀ j, (⟨g, 0, none⟩ : Addr).add j = ⟨g, j, none⟩ := fun j => by unfold Addr.add; split <;> simp_all
  obtain ⟨r1, r2⟩ := rv_get (l ++ [x]) l.length (by simp)
  have c1 := h.cells (g := g) rfl _ _ r1
  have c2 := h.cells (g := g) rfl _ _ r2
  rw [ha] at c1 c2
  simp only [List.getElem_append_right (Nat.le_refl _), Nat.sub_self, List.getElem_cons_zero] at c1 c2
  rcases h.2 with ⟨h0, _⟩ | ⟨g', cap', cur, e, hb, hg, hnc, hcm, hcs, ht⟩
  · cases h0
  · cases e
    exact ⟨c1, c2, fun o => by simp [World.frozen?, hg], hb, hnc, hcm⟩
theorem take_set_snoc (a : List Value) (x y z : Value) (cur : List Value) (n : Nat) (hn : a.length = n) (h : cur.take (n + 2) = a ++ [x, y]) : (cur.set (n + 1) z).take (n + 2) = a ++ [x, z] := by
  rw [List.take_set, h, ← hn, List.set_append_right _ _ (by omega)]
  have : a.length + 1 - a.length = 1 := by omega
  rw [this]; rfl
theorem JS.glued {w : World} {base B g cap : Nat} {l : List R} {xt xm : Int} {o : Obj} (k : Nat) (m : Int) (h : JS w base B (.slice (some ⟨g, 0, none⟩) (l.length + 1) cap) (l ++ [(xt, xm)])) :
    JS (((w.alloc o).drewN k).setCell ⟨g, l.length * 2 + 1, none⟩ (.int .i64 m)) base B (.slice (some ⟨g, 0, none⟩) (l.length + 1) cap) (l ++ [(xt, m)]) ∧
    Ext (touch B (.slice (some ⟨g, 0, none⟩) (l.length + 1) cap)) w (((w.alloc o).drewN k).setCell ⟨g, l.length * 2 + 1, none⟩ (.int .i64 m)) := by
  obtain ⟨hB, hx, hown⟩ := h
  have e1 : ∀ y : R, (l ++ [y]).length = l.length + 1 := by simp
  rw [e1] at hown
  have hne := hx.not_row (by decide) hown
  rcases hown.2 with ⟨h0, _⟩ | ⟨g', cap', cur, e, hb, hg, hnc, hcm, hcs, ht⟩
  · cases h0
  cases e
  have hgl : g < w.heap.size := (Array.getElem?_eq_some_iff.1 hg).1
  have hBg : B ≠ g := fun e => hne (by simp [Value.ownBlock, e])
  have hext : Ext (touch B (.slice (some ⟨g, 0, none⟩) (l.length + 1) cap)) w (((w.alloc o).drewN k).setCell ⟨g, l.length * 2 + 1, none⟩ (.int .i64 m)) := by
    refine ((Ext.refl (touch B (.slice (some ⟨g, 0, none⟩) (l.length + 1) cap)) w).alloc o).trans ⟨rfl, rfl, rfl, by show _ ≤ (Array.modify _ _ _).size; rw [Array.size_modify]; exact Nat.le_refl _, fun j hj hn => ?_⟩
    have : j ≠ g := fun e => hn (.inr (by simp [Value.ownBlock, e]))
    exact (Below.heap_setCell _ _ _ j this)
  refine ⟨⟨hB, ?_, ?_⟩, hext⟩
  · have h1 : ((w.alloc o).drewN k).heap[B]? = some (.cells #[.slice (some ⟨g, 0, none⟩) (l.length + 1) cap] 22 (0, 0)) := (heap_alloc_old w o hx.lt).trans hx
    exact (Below.heap_setCell _ _ _ B hBg).trans h1
  · rw [e1]
    refine ⟨by rw [rv_length, e1], .inr ⟨g, cap, cur.setIfInBounds (l.length * 2 + 1) (.int .i64 m), rfl, hb, ?_, hnc, hcm, by simpa using hcs, ?_⟩⟩
    · have h1 : ((w.alloc o).drewN k).heap[g]? = some (.cells cur 53 (0, 0)) := (heap_alloc_old w o hgl).trans hg
      obtain ⟨hlt, hk⟩ := Array.getElem?_eq_some_iff.1 h1
      show (((w.alloc o).drewN k).heap.modify g _)[g]? = _
      rw [Array.getElem?_eq_getElem (by rw [Array.size_modify]; exact hlt), Array.getElem_modify_self, hk]
      rfl
    · rw [Array.toList_setIfInBounds, show (l.length + 1) * 2 = l.length * 2 + 2 from by omega, rv_append]
      refine take_set_snoc (rv l) (.int .i64 xt) (.int .i64 xm) _ _ _ (rv_length l) ?_
      rw [show l.length * 2 + 2 = (l.length + 1) * 2 from by omega, ht, rv_append]
      rfl
set_option maxRecDepth 100000 in
set_option maxHeartbeats 1000000 in
theorem add_glued (base B : Nat) (v : Value) (l : List R) (x : R) (to many : Int) (w : World) (hJ : JS w base B v (l ++ [x])) (hm : many ≠ 0) (hbase : base ≤ w.heap.size) (hl : l.length ≤ 1048576)
    (hx1 : -1 ≤ x.1 ∧ x.1 ≤ 1099511627776) (hx2 : 0 ≤ x.2 ∧ x.2 ≤ 1099511627776) (hr : 0 ≤ many ∧ many ≤ 1099511627776) (hto : -1 ≤ to ∧ to ≤ 1099511627776) (hgl : glue x (to, many) = true) :
    Calls Try.prog 77 #[.agg #[.int .i64 to, .int .i64 many], .pointer (some ⟨B, 0, none⟩)] w fun e w' => e = .returned (.tuple #[]) ∧ ∃ v', JS w' base B v' (l ++ [(x.1, x.2 + many)]) ∧ Ext (touch B v) w w' := by
  have hJ0 := hJ
  obtain ⟨hB, hx, hown⟩ := hJ
  have e1 : (l ++ [x]).length = l.length + 1 := by simp
  rw [e1] at hown
  obtain ⟨g, cap, rfl⟩ := ownsRow_succ hown
  have c1 := hx.cell
  have f1 := hx.frozen
  have hm' : (many == 0) = false := by simp [hm]
  have hlt := hx.lt
  obtain ⟨d1, d2, d3, hbg, hcap, hcm⟩ := own_last hown
  have d4 := d3 (l.length * 2 + 1)
  have hg : g < w.heap.size := World.block_lt_of_cell? w _ d1
  have d5 := (World.cell?_alloc_lt w (.cells #[.int .i64 to, .int .i64 many] 53) ⟨g, l.length * 2, none⟩ hg).trans d1
  have d6 := (World.cell?_alloc_lt w (.cells #[.int .i64 to, .int .i64 many] 53) ⟨g, l.length * 2 + 1, none⟩ hg).trans d2
  clear d3
  obtain ⟨xt, xm⟩ := x
  simp only at *
  have HJ := Lib.hid hJ0
  clear hJ0 hown hx
  simp only [glue, Bool.or_eq_true, Bool.and_eq_true, decide_eq_true_eq] at hgl
  obtain ⟨hx11, hx12⟩ := hx1
  obtain ⟨hx21, hx22⟩ := hx2
  rcases hgl with ⟨rfl, rfl⟩ | ⟨⟨h1, h2⟩, rfl⟩
  · go_enter Try.func77, Try.ntmps77
    go_wp2_with fail
    go_quiet (fail)
    go_wp2_with fail
    go_region
    go_wp2_with fail
    refine bodyPost_ret (results_none rfl _ _ _) rfl ?_
    exact ⟨rfl, _, HJ.out.glued _ _⟩
  · have e3 : ((xt + xm : Int) == -1) = false := by simpa using h1
    have e4 : ((xt + xm : Int) != -1) = true := by simpa using h1
    have e5 : ((xt : Int) == -1) = false := by simpa using h2
    have e6 : ((xt : Int) != -1) = true := by simpa using h2
    go_enter Try.func77, Try.ntmps77
    go_wp2_with fail
    go_quiet (fail)
    go_wp2_with fail
    go_region
    go_wp2_with fail
    refine bodyPost_ret (results_none rfl _ _ _) rfl ?_
    exact ⟨rfl, _, HJ.out.glued _ _⟩
theorem JS.below {w w' : World} {base B : Nat} {v : Value} {l : List R} (h : JS w base B v l) (hb : Below w.heap.size w w') : JS w' base B v l :=
  ⟨h.1, (hb.block _ h.2.1.lt).trans h.2.1, h.2.2.kept (row := none) ⟨hb.os, hb.tape, hb.output, hb.size, fun k hk _ => hb.block k hk⟩ (by cases hv : v.ownBlock <;> simp)⟩
theorem below_quiet (w : World) (o : Obj) (nq : Nat) : Below w.heap.size w ((w.alloc o).drewN nq) := by
  have h := (Below.refl w.heap.size w).alloc (Nat.le_refl _) o
  exact ⟨h.os, h.tape, h.output, h.size, h.block⟩
theorem JS.pushed2 {w W w1 : World} {base B : Nat} {v v1 : Value} {l : List R} {r : R} {o2 : Obj} (h : JS w base B v l) (hb : Below w.heap.size w W) (hown : w1.ownsRow base 53 2 v1 (l.length + 1) (rv l ++ [.int .i64 r.1, .int .i64 r.2]))
    (hg : (W.alloc o2).grownBy w1 v.ownBlock) :
    w1.cell? ⟨B, 0, none⟩ = some v ∧ w1.frozen? ⟨B, 0, none⟩ = false ∧ JS (w1.setCell ⟨B, 0, none⟩ v1) base B v1 (l ++ [r]) ∧ Ext (touch B v) w (w1.setCell ⟨B, 0, none⟩ v1) := by
  obtain ⟨hB, hx, ho⟩ := h.below hb
  have hx1 : Boxed w1 B 22 v := (hx.alloc o2).kept hg (hx.not_row (by decide) ho)
  have e : (l ++ [r]).length = l.length + 1 := by simp
  have e2 : rv (l ++ [r]) = rv l ++ [.int .i64 r.1, .int .i64 r.2] := by simp [rv]
  refine ⟨hx1.cell, hx1.frozen, ⟨hB, hx1.set v1, ?_⟩, ?_⟩
  · rw [e, e2]
    exact hown.kept (grownBy_setCell' w1 B v1) (.inr (hx1.not_row (by decide) hown).symm)
  · exact (((Ext.of_below hb).alloc o2).trans ((ext_of_grown hg).mono fun k hk => .inr hk)).trans ((ext_setCell w1 B v1).mono fun k hk => .inl hk)
set_option maxRecDepth 100000 in
set_option maxHeartbeats 1000000 in
theorem add_push (base B : Nat) (v : Value) (l : List R) (x : R) (to many : Int) (w : World) (hJ : JS w base B v (l ++ [x])) (hm : many ≠ 0) (hbase : base ≤ w.heap.size) (hl : l.length ≤ 1048576)
    (hx1 : -1 ≤ x.1 ∧ x.1 ≤ 1099511627776) (hx2 : 0 ≤ x.2 ∧ x.2 ≤ 1099511627776) (hr : 0 ≤ many ∧ many ≤ 1099511627776) (hto : -1 ≤ to ∧ to ≤ 1099511627776) (hgl : glue x (to, many) = false) :
    Calls Try.prog 77 #[.agg #[.int .i64 to, .int .i64 many], .pointer (some ⟨B, 0, none⟩)] w fun e w' => e = .returned (.tuple #[]) ∧ ∃ v', JS w' base B v' (l ++ [x] ++ [(to, many)]) ∧ Ext (touch B v) w w' := by
  obtain ⟨i0, hi, hz0, hz1, hz2⟩ := info_parts Try.info_run
  have hJ0 := hJ
  obtain ⟨hB, hx, hown⟩ := hJ
  have e1 : (l ++ [x]).length = l.length + 1 := by simp
  rw [e1] at hown
  obtain ⟨g, cap, rfl⟩ := ownsRow_succ hown
  have c1 := hx.cell
  have f1 := hx.frozen
  have hm' : (many == 0) = false := by simp [hm]
  have hlt := hx.lt
  obtain ⟨d1, d2, d3, hbg, hcap, hcm⟩ := own_last hown
  have d4 := d3 (l.length * 2 + 1)
  have hg : g < w.heap.size := World.block_lt_of_cell? w _ d1
  have d5 := (World.cell?_alloc_lt w (.cells #[.int .i64 to, .int .i64 many] 53) ⟨g, l.length * 2, none⟩ hg).trans d1
  have d6 := (World.cell?_alloc_lt w (.cells #[.int .i64 to, .int .i64 many] 53) ⟨g, l.length * 2 + 1, none⟩ hg).trans d2
  clear d3
  obtain ⟨xt, xm⟩ := x
  simp only at *
  have HJ := Lib.hid hJ0
  have HE1 := Lib.hid e1
  clear hx e1 hJ0
  have HO := Lib.hid (one_int .i64 [to, many])
  have HW := Lib.hid hown
  clear hown
  obtain ⟨hx11, hx12⟩ := hx1
  obtain ⟨hx21, hx22⟩ := hx2
  have hfin : glue (xt, xm) (to, many) = false := hgl
  simp only [glue, Bool.or_eq_false_iff, Bool.and_eq_false_iff, decide_eq_false_iff_not, Decidable.not_not] at hgl
  have hcases : (to = -1 ∧ xt ≠ -1) ∨ (to ≠ -1 ∧ xt = -1) ∨ (to ≠ -1 ∧ xt ≠ -1 ∧ to ≠ xt + xm) := by omega
  clear hgl hfin
  rcases hcases with ⟨rfl, h2⟩ | ⟨h1, rfl⟩ | ⟨h1, h2, h3⟩
  · have e5 : ((xt : Int) == -1) = false := by simpa using h2
    have e6 : ((xt : Int) != -1) = true := by simpa using h2
    go_enter Try.func77, Try.ntmps77
    go_wp2_with fail
    go_quiet (fail)
    have hB0 := below_quiet w (.cells #[.int .i64 (-1), .int .i64 many] 53) nq
    have hsz : ((w.alloc (.cells #[.int .i64 (-1), .int .i64 many] 53)).drewN nq).heap.size = w.heap.size + 1 := World.size_alloc w _
    have hnews := cells_new ((w.alloc (.cells #[.int .i64 (-1), .int .i64 many] 53)).drewN nq) [.int .i64 (-1), .int .i64 many] 53
    rw [hsz] at hnews
    have HN := Lib.hid hnews
    clear hsz hnews
    have hW2 : (((w.alloc (.cells #[.int .i64 (-1), .int .i64 many] 53)).drewN nq).alloc (.cells #[.int .i64 (-1), .int .i64 many] 53)).ownsRow base 53 2 (.slice (some ⟨g, 0, none⟩) (l.length + 1) cap) (l.length + 1) (rv (l ++ [(xt, xm)])) :=
      World.ownsRow.alloc (w := (w.alloc (.cells #[.int .i64 (-1), .int .i64 many] 53)).drewN nq) (HW.out.alloc _) _
    go_wp2_with (at_builtin; refine wpList_append_own _ rfl _ _ 22 rfl base 53 i0 (.agg #[.int .i64 0, .int .i64 0]) 2 16 Try.underlying22 hi hz0 hz1 hz2 rfl (by decide) _ _ _ rfl hW2 ⟨w.heap.size + 1, 0, none⟩ 1 1 [.int .i64 (-1), .int .i64 many] rfl rfl HN.out HO.out (by unfold maxLen; omega) (by omega) (by rw [World.size_alloc]; have := hB0.size; omega) ?_; intro v1 w1 hown1 hgrow _; obtain ⟨g1, cap1, rfl⟩ := ownsRow_succ hown1; obtain ⟨hb1, hb2, hb3, hb4⟩ := HJ.out.pushed2 (r := ((-1), many)) hB0 (by rw [HE1.out]; exact hown1) hgrow)
    go_end0
    exact ⟨rfl, _, hb3, hb4⟩
  · have e5 : ((to : Int) == -1) = false := by simpa using h1
    have e6 : ((to : Int) != -1) = true := by simpa using h1
    go_enter Try.func77, Try.ntmps77
    go_wp2_with fail
    go_quiet (fail)
    have hB0 := below_quiet w (.cells #[.int .i64 to, .int .i64 many] 53) nq
    have hsz : ((w.alloc (.cells #[.int .i64 to, .int .i64 many] 53)).drewN nq).heap.size = w.heap.size + 1 := World.size_alloc w _
    have hnews := cells_new ((w.alloc (.cells #[.int .i64 to, .int .i64 many] 53)).drewN nq) [.int .i64 to, .int .i64 many] 53
    rw [hsz] at hnews
    have HN := Lib.hid hnews
    clear hsz hnews
    have hW2 : (((w.alloc (.cells #[.int .i64 to, .int .i64 many] 53)).drewN nq).alloc (.cells #[.int .i64 to, .int .i64 many] 53)).ownsRow base 53 2 (.slice (some ⟨g, 0, none⟩) (l.length + 1) cap) (l.length + 1) (rv (l ++ [((-1), xm)])) :=
      World.ownsRow.alloc (w := (w.alloc (.cells #[.int .i64 to, .int .i64 many] 53)).drewN nq) (HW.out.alloc _) _
    go_wp2_with (at_builtin; refine wpList_append_own _ rfl _ _ 22 rfl base 53 i0 (.agg #[.int .i64 0, .int .i64 0]) 2 16 Try.underlying22 hi hz0 hz1 hz2 rfl (by decide) _ _ _ rfl hW2 ⟨w.heap.size + 1, 0, none⟩ 1 1 [.int .i64 to, .int .i64 many] rfl rfl HN.out HO.out (by unfold maxLen; omega) (by omega) (by rw [World.size_alloc]; have := hB0.size; omega) ?_; intro v1 w1 hown1 hgrow _; obtain ⟨g1, cap1, rfl⟩ := ownsRow_succ hown1; obtain ⟨hb1, hb2, hb3, hb4⟩ := HJ.out.pushed2 (r := (to, many)) hB0 (by rw [HE1.out]; exact hown1) hgrow)
    go_end0
    exact ⟨rfl, _, hb3, hb4⟩
  · have e5 : ((xt : Int) == -1) = false := by simpa using h2
    have e6 : ((xt : Int) != -1) = true := by simpa using h2
    have e7 : ((to : Int) == -1) = false := by simpa using h1
    have e8 : ((to : Int) != -1) = true := by simpa using h1
    have e9 : ((to : Int) == xt + xm) = false := by simpa using h3
    go_enter Try.func77, Try.ntmps77
    go_wp2_with fail
    go_quiet (fail)
    have hB0 := below_quiet w (.cells #[.int .i64 to, .int .i64 many] 53) nq
    have hsz : ((w.alloc (.cells #[.int .i64 to, .int .i64 many] 53)).drewN nq).heap.size = w.heap.size + 1 := World.size_alloc w _
    have hnews := cells_new ((w.alloc (.cells #[.int .i64 to, .int .i64 many] 53)).drewN nq) [.int .i64 to, .int .i64 many] 53
    rw [hsz] at hnews
    have HN := Lib.hid hnews
    clear hsz hnews
    have hW2 : (((w.alloc (.cells #[.int .i64 to, .int .i64 many] 53)).drewN nq).alloc (.cells #[.int .i64 to, .int .i64 many] 53)).ownsRow base 53 2 (.slice (some ⟨g, 0, none⟩) (l.length + 1) cap) (l.length + 1) (rv (l ++ [(xt, xm)])) :=
      World.ownsRow.alloc (w := (w.alloc (.cells #[.int .i64 to, .int .i64 many] 53)).drewN nq) (HW.out.alloc _) _
    go_wp2_with (at_builtin; refine wpList_append_own _ rfl _ _ 22 rfl base 53 i0 (.agg #[.int .i64 0, .int .i64 0]) 2 16 Try.underlying22 hi hz0 hz1 hz2 rfl (by decide) _ _ _ rfl hW2 ⟨w.heap.size + 1, 0, none⟩ 1 1 [.int .i64 to, .int .i64 many] rfl rfl HN.out HO.out (by unfold maxLen; omega) (by omega) (by rw [World.size_alloc]; have := hB0.size; omega) ?_; intro v1 w1 hown1 hgrow _; obtain ⟨g1, cap1, rfl⟩ := ownsRow_succ hown1; obtain ⟨hb1, hb2, hb3, hb4⟩ := HJ.out.pushed2 (r := (to, many)) hB0 (by rw [HE1.out]; exact hown1) hgrow)
    go_end0
    exact ⟨rfl, _, hb3, hb4⟩
end Go.Proofs.Ytjdkdogiaokhjaa
