/- Runs: Where. -/
import Derived.Test.YtjdkdogiaokhjaaTo
import Derived.OwnWalkIn
namespace Go.Proofs.Ytjdkdogiaokhjaa
open Go.RowKit Go.Proofs
set_option linter.unusedSimpArgs false
set_option linter.unusedVariables false
attribute [local go_sem] Oper.semAt_some

structure WI (n : Nat) (w : World) (tv : Int) (W : World) (v : Value) (out : List Int) : Prop where
  b0 : Boxed W n 3 (.int .i64 tv)
  b1 : Boxed W (n + 1) 59 v
  b2 : Boxed W (n + 1 + 1) 26 (.int .i64 0)
  own : OwnI W (n + 3) v out
  below : Below n w W
  size : n + 3 ≤ W.heap.size
theorem ownI_ext {W W' : World} {base : Nat} {v : Value} {out : List Int} {O : Nat → Prop} (h : OwnI W base v out) (he : Ext O W W') (hv : ∀ g, v.ownBlock = some g → ¬ O g) : OwnI W' base v out := by
  obtain ⟨hl, hh⟩ := h
  refine ⟨hl, ?_⟩
  rcases hh with hn | ⟨g, cap, cur, rfl, hb, hg, rest⟩
  · exact .inl hn
  · exact .inr ⟨g, cap, cur, rfl, hb, (he.block _ (Array.getElem?_eq_some_iff.1 hg).1 (hv g rfl)).trans hg, rest⟩
theorem WI.ext {n : Nat} {w : World} {tv : Int} {W W' : World} {v : Value} {out : List Int} {O : Nat → Prop} (h : WI n w tv W v out) (he : Ext O W W') (ho : ∀ b, O b → n + 3 ≤ b) (hv : ∀ g, v.ownBlock = some g → ¬ O g) : WI n w tv W' v out :=
  ⟨boxed_ext h.b0 he (fun h => by have := ho _ h; omega), boxed_ext h.b1 he (fun h => by have := ho _ h; omega), boxed_ext h.b2 he (fun h => by have := ho _ h; omega), ownI_ext h.own he hv, below_ext h.below he (by have := h.size; omega) (fun b hb => by have := ho b hb; omega), by have := he.size; have := h.size; omega⟩
theorem WI.start (w : World) (tv : Int) : WI w.heap.size w tv (((w.alloc (.cells #[.int .i64 tv] 3)).alloc (.cells #[.slice none 0 0] 59)).alloc (.cells #[.int .i64 0] 26)) (.slice none 0 0) [] := by
  refine ⟨((Boxed.new w _ _).alloc _).alloc _, ?_, ?_, World.ownsRow_nil _ _ _ _, ?_, by simp⟩
  · have := Boxed.new (w.alloc (.cells #[.int .i64 tv] 3)) 59 (.slice none 0 0)
    rw [World.size_alloc] at this
    exact this.alloc _
  · have := Boxed.new ((w.alloc (.cells #[.int .i64 tv] 3)).alloc (.cells #[.slice none 0 0] 59)) 26 (.int .i64 0)
    rw [World.size_alloc, World.size_alloc] at this
    exact this
  · exact (((Below.refl _ w).alloc (Nat.le_refl _) _).alloc (by simp) _).alloc (by simp; omega) _
theorem WI.lt {n : Nat} {w : World} {tv : Int} {W : World} {v : Value} {out : List Int} (h : WI n w tv W v out) : ∀ g, v.ownBlock = some g → n + 3 ≤ g ∧ g < W.heap.size := fun g hg => World.ownsRow.lt h.own g hg
theorem WI.ne_obj {n : Nat} {w : World} {tv : Int} {W : World} {v : Value} {out : List Int} {b : Nat} {o : Obj} (h : WI n w tv W v out) (hl : W.heap[b]? = some o) (ho : o.isCells = false) : ∀ g, v.ownBlock = some g → g ≠ b := by
  rintro g hg rfl
  rcases h.own.2 with ⟨rfl, _⟩ | ⟨g', cap, cur, rfl, hb, hgg, rest⟩
  · simp [Value.ownBlock] at hg
  · have : g = g' := by simpa [Value.ownBlock] using hg.symm
    subst this
    have := hgg.symm.trans hl
    cases this; cases ho
theorem WI.fault_ {n : Nat} {w W : World} {tv x : Int} (h : WI n w tv W (.slice none 0 0) []) (hn : n = w.heap.size) :
    (W.setCell ⟨n + 1 + 1, 0, none⟩ (.int .i64 x)).cell? ⟨n + 1, 0, none⟩ = some (.slice none 0 0) ∧ (W.setCell ⟨n + 1 + 1, 0, none⟩ (.int .i64 x)).cell? ⟨n + 1 + 1, 0, none⟩ = some (.int .i64 x) ∧ Below w.heap.size w (W.setCell ⟨n + 1 + 1, 0, none⟩ (.int .i64 x)) := by
  subst hn
  refine ⟨?_, (h.b2.set _).cell, h.below.setCell (by simp; omega) _⟩
  rw [World.cell?_setCell_other _ _ _ _ (by simp)]; exact h.b1.cell
theorem ownI_base {W : World} {b b' : Nat} {v : Value} {l : List Int} (h : OwnI W b v l) (hg : ∀ g, v.ownBlock = some g → b' ≤ g) : OwnI W b' v l := by
  obtain ⟨h0, h1⟩ := h
  refine ⟨h0, ?_⟩
  rcases h1 with h1 | ⟨g, cap, cur, rfl, hb, rest⟩
  · exact .inl h1
  · exact .inr ⟨g, cap, cur, rfl, hg g rfl, rest⟩
theorem WI.appended {n q : Nat} {w : World} {tv x : Int} {W w9 : World} {v v1 : Value} {out : List Int} {tmp : Obj} (h : WI n w tv W v out) (hq : n + 3 ≤ q) (hqs : q ≤ W.heap.size) (ho : OwnI W q v out)
    (hown : w9.ownsRow q 3 1 v1 (out.length + 1) (out.map (Value.int .i64) ++ [.int .i64 x])) (hgrow : (W.alloc tmp).grownBy w9 v.ownBlock) :
    Boxed w9 (n + 1) 59 v ∧ (∃ g c, v1 = .slice (some ⟨g, 0, none⟩) (out.length + 1) c) ∧ WI n w tv (w9.setCell ⟨n + 1, 0, none⟩ v1) v1 (out ++ [x]) ∧ (∀ g, v1.ownBlock = some g → q ≤ g) ∧ W.heap.size ≤ (w9.setCell ⟨n + 1, 0, none⟩ v1).heap.size ∧ (∀ b, b < W.heap.size → b ≠ n + 1 → some b ≠ v.ownBlock → (w9.setCell ⟨n + 1, 0, none⟩ v1).heap[b]? = W.heap[b]?) := by
  have hlt : ∀ g, v.ownBlock = some g → q ≤ g := fun g hg => (World.ownsRow.lt ho g hg).1
  have hlt1 : ∀ g, v1.ownBlock = some g → q ≤ g := fun g hg => (World.ownsRow.lt hown g hg).1
  have hs1 := h.size
  have hgs := hgrow.size
  rw [World.size_alloc] at hgs
  have hss := (ext_set_at w9 (n + 1) 0 v1).size
  have hb : ∀ b, b < W.heap.size → b ≠ n + 1 → some b ≠ v.ownBlock → (w9.setCell ⟨n + 1, 0, none⟩ v1).heap[b]? = W.heap[b]? := fun b hb1 hb2 hb3 =>
    (Below.heap_setCell _ _ _ b (by simpa using hb2)).trans ((hgrow.block b (by rw [World.size_alloc]; omega) hb3).trans (((Below.refl W.heap.size W).alloc (Nat.le_refl _) tmp).block b hb1))
  have hne : ∀ b, b < n + 3 → some b ≠ v.ownBlock := fun b hb1 e => by have := hlt b e.symm; omega
  have h1 : Boxed w9 (n + 1) 59 v := (h.b1.alloc tmp).kept hgrow (hne _ (by omega))
  have hB : Below n W (w9.setCell ⟨n + 1, 0, none⟩ v1) := ⟨(by rw [show (w9.setCell ⟨n + 1, 0, none⟩ v1).os = w9.os from rfl, hgrow.os]; rfl), (by rw [show (w9.setCell ⟨n + 1, 0, none⟩ v1).tape = w9.tape from rfl, hgrow.tape]; rfl), (by rw [show (w9.setCell ⟨n + 1, 0, none⟩ v1).output = w9.output from rfl, hgrow.output]; rfl), by omega, fun k hk => hb k (by omega) (by omega) (hne k (by omega))⟩
  refine ⟨h1, ownsRow_succ hown, ⟨?_, h1.set _, ?_, ?_, h.below.trans hB, by omega⟩, hlt1, by omega, hb⟩
  · exact (hb n h.b0.lt (by omega) (hne _ (by omega))).trans h.b0
  · exact (hb _ h.b2.lt (by omega) (hne _ (by omega))).trans h.b2
  · have := ownI_base (ownI_snoc hown) (b' := n + 3) (fun g hg => by have := hlt1 g hg; omega)
    exact this.kept (grownBy_setCell' w9 (n + 1) v1) (by
      rcases hv : v1.ownBlock with _ | g
      · exact .inl rfl
      · exact .inr (fun e => by have := hlt1 g hv; cases e; omega))
def ResI (w0 : World) (e : Int) (out : List Int) (r : Ending) (w' : World) : Prop := ∃ A c, r = .returned (.tuple #[.slice A out.length c, .int .i64 e]) ∧ RdI w' A out ∧ Below w0.heap.size w0 w'
theorem RdI.nil (w : World) (A : Option Addr) : RdI w A [] := fun h => absurd rfl h
set_option maxRecDepth 100000 in
set_option maxHeartbeats 2000000 in
theorem Where_bad (A : Option Addr) (l : List R) (c : Nat) (tv : Int) (w : World) (hR : Rd w A l) (hn : l.length ≤ 1048576) (h0 : mustE l ≠ 0) :
    Calls Try.prog 34 #[.slice A l.length c, .int .i64 tv] w (ResI w (mustE l) []) := by
  have H0 := Lib.hid h0
  clear h0
  refine calls_of_wp_marks Try.func34 rfl ?_
  simp only [Try.ntmps34, List.size_toArray, List.length_cons, List.length_nil, Nat.reduceAdd, Nat.reduceSub, Array.replicate_succ, Array.replicate_zero, List.push_toArray, List.append_toArray, List.nil_append, List.cons_append]
  go_wp2_with fail
  have hmi := WI.start w tv
  refine (must_no H0 (hR.below hmi.below) hn).mono ?_
  rintro e w1 ⟨rfl, hB⟩
  replace hmi := hmi.ext (Ext.of_below (O := fun _ => False) hB) (fun _ h => h.elim) (fun _ _ h => h.elim)
  clear hB
  go_wp2_with fail
  obtain ⟨e1, e2, e4⟩ := hmi.fault_ (x := mustE l) rfl
  refine door_fault_in hmi.b2.cell hmi.b2.frozen (v := .tuple #[.slice none 0 0, .int .i64 (mustE l)]) ?_ ⟨none, 0, rfl, RdI.nil _ _, e4⟩
  simp [results, Try.results34, go_sem, e1, e2]
set_option maxRecDepth 100000 in
set_option maxHeartbeats 2000000 in
theorem Where_arg (A : Option Addr) (l : List R) (c : Nat) (tv : Int) (w : World) (hR : Rd w A l) (hn : l.length ≤ 1048576) (h0 : mustE l = 0) (hp : tv < 0) :
    Calls Try.prog 34 #[.slice A l.length c, .int .i64 tv] w (ResI w 1 []) := by
  have H0 := Lib.hid h0
  have hd : decide (0 ≤ tv) = false := by simp; omega
  clear h0
  refine calls_of_wp_marks Try.func34 rfl ?_
  simp only [Try.ntmps34, List.size_toArray, List.length_cons, List.length_nil, Nat.reduceAdd, Nat.reduceSub, Array.replicate_succ, Array.replicate_zero, List.push_toArray, List.append_toArray, List.nil_append, List.cons_append]
  go_wp2_with fail
  have hmi := WI.start w tv
  refine (must_ok H0 (hR.below hmi.below) hn).mono ?_
  rintro e w1 ⟨rfl, hB⟩
  replace hmi := hmi.ext (Ext.of_below (O := fun _ => False) hB) (fun _ h => h.elim) (fun _ _ h => h.elim)
  clear hB
  have hc0 := hmi.b0.cell
  go_wp2_with (first | (go_at_call 55; (with_reducible refine need_rule _ _ ?_ ?_) <;> intro hq <;> (first | (cases hq; done) | skip) <;> (try simp only [decide_eq_true_eq, decide_eq_false_iff_not, Bool.or_eq_true, Bool.or_eq_false_iff, Bool.and_eq_true, Bool.and_eq_false_iff, beq_iff_eq, beq_eq_false_iff_ne, ne_eq, bne_iff_ne, Bool.not_eq_true, Int.not_le, Int.not_lt] at hq) <;> go_prune))
  obtain ⟨e1, e2, e4⟩ := hmi.fault_ (x := 1) rfl
  refine door_fault_in hmi.b2.cell hmi.b2.frozen (v := .tuple #[.slice none 0 0, .int .i64 1]) ?_ ⟨none, 0, rfl, RdI.nil _ _, e4⟩
  simp [results, Try.results34, go_sem, e1, e2]
theorem enters72w (args : Array Value) (w : World) : (callFunc 72 args).run Try.prog w = .ok (.enter 72 args) w := enters_of Try.func72 (by kernel_rfl) rfl args w
set_option maxRecDepth 100000 in
set_option maxHeartbeats 4000000 in
theorem Where_ok (A : Option Addr) (l : List R) (c : Nat) (tv : Int) (w : World) (hR : Rd w A l) (h0 : mustE l = 0) (hp : 0 ≤ tv) :
    Calls Try.prog 34 #[.slice A l.length c, .int .i64 tv] w (ResI w 0 (whereG tv 0 l)) := by
  obtain ⟨i0, hi, hz0, hz1, hz2⟩ := info_parts Try.info_int
  have H0 := Lib.hid h0
  have hm := mild_of_must h0
  have hok := okL_of_must h0
  obtain ⟨hn, _, hz3⟩ := mustE_zero h0
  have hd : decide (0 ≤ tv) = true := by simpa using hp
  clear h0
  refine calls_of_wp_marks Try.func34 rfl ?_
  simp only [Try.ntmps34, List.size_toArray, List.length_cons, List.length_nil, Nat.reduceAdd, Nat.reduceSub, Array.replicate_succ, Array.replicate_zero, List.push_toArray, List.append_toArray, List.nil_append, List.cons_append]
  go_wp2_with fail
  have hmi := WI.start w tv
  have hRl := hR.below hmi.below
  obtain ⟨wl0, hwl0⟩ : ∃ wl, (((w.alloc (.cells #[.int .i64 tv] 3)).alloc (.cells #[.slice none 0 0] 59)).alloc (.cells #[.int .i64 0] 26)) = wl := ⟨_, rfl⟩
  rw [hwl0] at hmi hRl ⊢
  clear hwl0
  refine (must_ok H0 hRl (by omega)).mono ?_
  rintro e w1 ⟨rfl, hB⟩
  replace hmi := hmi.ext (Ext.of_below (O := fun _ => False) hB) (fun _ h => h.elim) (fun _ _ h => h.elim)
  replace hRl := hRl.below hB
  clear hB
  have hc0 := hmi.b0.cell
  have HS := Lib.hid (fun w => starts_any A l.length c w)
  go_wp2_with (first | (go_at_call 65; (with_reducible refine (HS.out _).mono ?_); rintro e w4 ⟨rfl, rfl⟩) | (go_at_call 55; (with_reducible refine need_rule _ _ ?_ ?_) <;> intro hq <;> (first | (cases hq; done) | skip) <;> (try simp only [decide_eq_true_eq, decide_eq_false_iff_not, Bool.or_eq_true, Bool.or_eq_false_iff, Bool.and_eq_true, Bool.and_eq_false_iff, beq_iff_eq, beq_eq_false_iff_ne, ne_eq, bne_iff_ne, Bool.not_eq_true, Int.not_le, Int.not_lt] at hq) <;> go_prune))
  clear HS hd hc0
  have hc4 : (w1.alloc (.cells #[.slice A l.length c] 22)).cell? ⟨w1.heap.size, 0, none⟩ = some (.slice A l.length c) := by simp [go_sem]
  have hG := starts_gives w1.heap.size A l c _ hc4 (hRl.below (below_alloc1 _ _)) (by omega) hm.fine.small
  have hmi4 := hmi.ext (Ext.of_below (O := fun _ => False) (below_alloc1 w1 (.cells #[.slice A l.length c] 22))) (fun _ h => h.elim) (fun _ _ h => h.elim)
  obtain ⟨wl, hwl⟩ : ∃ wl, w1.alloc (.cells #[.slice A l.length c] 22) = wl := ⟨_, rfl⟩
  have hR4 : Rd wl A l := by rw [← hwl]; exact hRl.below (below_alloc1 _ _)
  have hws : wl.heap.size = w1.heap.size + 1 := by rw [← hwl]; simp
  rw [hwl] at hG hmi4 ⊢
  clear hwl hc4 hmi hRl
  refine wp_rangeFunc_gives (gf := 72) (lb := #[.pointer (some ⟨w1.heap.size, 0, none⟩)]) rfl enters72w hG ?hps (fun b hb => hb.elim) ?hK
    (I := fun k W => ∃ v, WI w.heap.size w tv W v (whereG tv 0 (l.take k)) ∧ ∀ g, v.ownBlock = some g → wl.heap.size ≤ g)
    (Ix := fun _ _ _ => False) ?hI ?hIl ?hIx ?hIxl ?h0
    (Asg := fun k W1 a₁ W2 => W2 = W1.alloc (.cells #[.int .i64 (l.getD k (0, 0)).1, .int .i64 (l.getD k (0, 0)).2] 53) ∧ a₁ = { tmps := #[.slice A l.length c, .int .i64 tv, undef, .pointer (some ⟨w.heap.size, 0, none⟩), .pointer (some ⟨w.heap.size + 1, 0, none⟩), .pointer (some ⟨w.heap.size + 1 + 1, 0, none⟩), .int .i64 (sumR (l.take k)), .pointer (some ⟨W1.heap.size, 0, none⟩), .slice A l.length c, .tuple #[], .int .i64 tv, .bool true, .tuple #[], .slice A l.length c, .func (.func 72) #[] #[.pointer (some ⟨w1.heap.size, 0, none⟩)], .int .i64 (sumR (l.take k)), .agg #[.int .i64 (l.getD k (0, 0)).1, .int .i64 (l.getD k (0, 0)).2], undef, undef, undef, undef, undef, undef, undef, undef, undef, undef, undef, undef, undef, undef, undef, undef, undef, undef, undef, undef, undef, undef, undef, undef, undef, undef, undef, undef], defers := [] })
    ?hassign ?hbody ?hdone ?hstop
  case hps => intro k; rfl
  case hK => intro b hb; have := hR4.blk_lt b hb; omega
  case hI => rintro k W1 W2 ⟨v, h, hv⟩ he; exact ⟨v, h.ext he (fun b hb => hb.elim) (fun _ _ hb => hb.elim), hv⟩
  case hIl =>
    rintro k W1 o o' ⟨v, h, hv⟩ hl
    exact ⟨v, h.ext (Ext.putObj (O := fun b => b = wl.heap.size + 1) _ rfl) (fun b hb => by have := hmi4.size; omega) (fun g hg e => h.ne_obj hl rfl g hg e), hv⟩
  case hIx => exact fun _ _ _ _ h _ => h
  case hIxl => exact fun _ _ _ _ _ h _ => h
  case h0 => exact ⟨_, hmi4, fun g hg => by simp [Value.ownBlock] at hg⟩
  case hassign =>
    intro k W1 Kc hK
    simp only [startArgs]
    gi_wp2
    exact hK _ _ ((Ext.refl _ _).alloc _) ⟨rfl, rfl⟩
  case hbody =>
    rintro k W0 W1 a₁ W2 W3 hk ⟨v, hI, hv⟩ ⟨⟨o, hlo⟩, hdo⟩ he ⟨rfl, rfl⟩ hcells hs3 h01 h0s
    obtain ⟨r, hr⟩ : ∃ r, l.getD k (0, 0) = r := ⟨_, rfl⟩
    rw [hr] at hcells hs3 ⊢
    have hI3 : WI w.heap.size w tv W3 v (whereG tv 0 (l.take k)) := hI.ext he (fun b hb => by have := hmi4.size; rcases hb with h | h; exact h.elim; omega) (fun g hg hb => by rcases hb with h | h; exact h.elim; exact hI.ne_obj hlo rfl g hg h)
    have hlt3 : W1.heap.size ≠ wl.heap.size + 1 := by omega
    have c0 : W3.cell? ⟨W1.heap.size, 0, none⟩ = some (.int .i64 r.1) := by rw [(hcells ⟨W1.heap.size, 0, none⟩ hlt3).1]; simp [go_sem]
    have c1' : W3.cell? ⟨W1.heap.size, 1, none⟩ = some (.int .i64 r.2) := by rw [(hcells ⟨W1.heap.size, 1, none⟩ hlt3).1]; simp [go_sem]
    have hkl : l.getD k (0, 0) = l[k] := by simp [List.getD_eq_getElem?_getD, List.getElem?_eq_getElem hk]
    have hrk : l[k] = r := hkl.symm.trans hr
    have hel := (okR_iff _).1 (hok l[k] (List.getElem_mem hk))
    have hmk := Mild.take hm k
    have hsk := sumR_nonneg (l := l.take k) (fun r hr => (hmk.1 r hr).2.2)
    have hsl := sumR_take_le (fun r hr => (hm.1 r hr).2.2) (l := l) k
    have hlen := whereG_len tv (l.take k) 0
    have hltk := List.length_take_le k l
    have hws' := whereG_take_succ tv l k hk
    rw [hrk] at hel hws'
    have HWS := Lib.hid hws'
    have hne1 : some (wl.heap.size + 1) ≠ v.ownBlock := fun e => hI.ne_obj hlo rfl _ e.symm rfl
    have hne0 : some wl.heap.size ≠ v.ownBlock := fun e => hI.ne_obj hdo rfl _ e.symm rfl
    have hv0 : ∀ g, v.ownBlock = some g → g < W0.heap.size := fun g hg => (hI.lt g hg).2
    have hsz := hI3.size
    have hsz3 := hmi4.size
    rw [World.size_alloc] at hs3
    have hmix : Try.prog.follows .mixedOrders = true := by kernel_rfl
    have HBL := Lib.hid (fun b => hR.blk_lt b)
    clear hlo hdo he hcells hI hkl hrk hr hmk hws' hG hm hok hR hR4 H0
    obtain ⟨rt, rm⟩ := r
    simp only at c0 c1' hel ⊢
    obtain ⟨r1, r2, r3, r4⟩ := hel
    have hSb : sumR (l.take k) ≤ 1073741824 := by omega
    have b0 := hI3.b0.cell
    generalize hout : whereG tv 0 (l.take k) = out at *
    generalize sumR (l.take k) = S at *
    by_cases q1 : 0 ≤ rt
    · have q4 : rt ≤ 1073741824 - rm := by omega
      have d1 : (rt != -1) = true := by simp; omega
      by_cases q2 : rt ≤ tv
      · have d2 : decide (rt ≤ tv) = true := by simpa using q2
        by_cases q3 : tv < rt + rm
        · have d3 : decide (tv < rt + rm) = true := by simpa using q3
          have HWE : Hid (whereG tv 0 (l.take (k + 1)) = out ++ [S + tv - rt]) := Lib.hid (by rw [HWS.out]; simp only; rw [if_pos ⟨q1, q2, q3⟩])
          have hoq : OwnI W3 wl.heap.size v out := ownI_base hI3.own hv
          have HW : Hid ((W3.alloc (.cells #[.int .i64 (S + tv - rt)] 3)).ownsRow wl.heap.size 3 1 v out.length (out.map (Value.int .i64))) := Lib.hid (hoq.alloc _)
          have hnew := cells_new W3 [.int .i64 (S + tv - rt)] 3
          rw [hs3] at hnew
          have HN := Lib.hid hnew
          have HO := Lib.hid (one_int .i64 [S + tv - rt])
          have hbW : wl.heap.size ≤ (W3.alloc (.cells #[.int .i64 (S + tv - rt)] 3)).heap.size := by rw [World.size_alloc]; omega
          have HI := Lib.hid hI3
          have HQ := Lib.hid hoq
          have b1 := hI3.b1.cell
          clear hI3 hoq hnew
          gi_wp2_with (first | (gi_at_builtin; refine wpListIn_append_own _ rfl _ _ 59 rfl wl.heap.size 3 i0 (.int .i64 0) 1 8 Try.underlying59 hi hz0 hz1 hz2 rfl (by decide) _ _ _ rfl HW.out ⟨W1.heap.size + 1, 0, none⟩ 1 1 [.int .i64 (S + tv - rt)] rfl rfl HN.out HO.out (by unfold maxLen; omega) (by omega) hbW ?_; intro v1 w9 hown9 hgrow _; obtain ⟨hb1, ⟨g1, cc1, rfl⟩, hI9, hg9, hs9, hk9⟩ := HI.out.appended (by omega) (by omega) HQ.out hown9 hgrow; have b19 := hb1.cell; have z19 := hb1.frozen; clear hown9 hgrow) | fail)
          refine ⟨fun b hb => hk9 b (by omega) (by omega) ?_, ⟨_, by rw [HWE.out]; exact hI9, fun g hg => by have := hg9 g hg; omega⟩, by omega, fun b hb hb2 => hk9 b (by omega) ?_ ?_⟩
          · rcases hb with rfl | rfl
            · rw [← hws]; exact hne0
            · rw [← hws]; exact hne1
          · rcases hb2 with hb2 | hb2
            · have := HBL.out b hb2; omega
            · omega
          · rcases hb2 with hb2 | hb2
            · intro e; have := hv b e.symm; have := HBL.out b hb2; omega
            · intro e; have := hv0 b e.symm; omega
        · have d3 : decide (tv < rt + rm) = false := by simpa using q3
          have HWE : Hid (whereG tv 0 (l.take (k + 1)) = out) := Lib.hid (by rw [HWS.out]; simp only; rw [if_neg (fun h => q3 h.2.2), List.append_nil])
          gi_wp2_with fail
          exact ⟨fun _ _ => rfl, ⟨v, by rw [HWE.out]; exact hI3, fun g hg => by have := hv g hg; omega⟩, by omega, fun _ _ _ => rfl⟩
      · have d2 : decide (rt ≤ tv) = false := by simpa using q2
        have HWE : Hid (whereG tv 0 (l.take (k + 1)) = out) := Lib.hid (by rw [HWS.out]; simp only; rw [if_neg (fun h => q2 h.2.1), List.append_nil])
        gi_wp2_with fail
        exact ⟨fun _ _ => rfl, ⟨v, by rw [HWE.out]; exact hI3, fun g hg => by have := hv g hg; omega⟩, by omega, fun _ _ _ => rfl⟩
    · have HWE : Hid (whereG tv 0 (l.take (k + 1)) = out) := Lib.hid (by rw [HWS.out]; simp only; rw [if_neg (fun h => q1 h.1), List.append_nil])
      have q5 : rt = -1 := by omega
      subst q5
      gi_wp2_with fail
      exact ⟨fun _ _ => rfl, ⟨v, by rw [HWE.out]; exact hI3, fun g hg => by have := hv g hg; omega⟩, by omega, fun _ _ _ => rfl⟩
  case hdone =>
    rintro W ⟨v, hI, hv⟩ hD
    rw [List.take_length] at hI
    clear hG
    have e1 := hI.b1.cell
    have e2 := hI.b1.frozen
    have e3 := hI.b2.frozen
    have e5 := hI.b2.cell
    have hms := hmi4.size
    have hI7 : WI w.heap.size w tv ((W.setCell ⟨w.heap.size + 1, 0, none⟩ v).setCell ⟨w.heap.size + 1 + 1, 0, none⟩ (.int .i64 0)) v (whereG tv 0 l) := by
      have hv3 : ∀ g, v.ownBlock = some g → w.heap.size + 3 ≤ g := fun g hg => (hI.lt g hg).1
      refine ⟨(hI.b0.other (by omega) _).other (by omega) _, (hI.b1.set _).other (by omega) _, (hI.b2.other (by omega) _).set _, ?_, (hI.below.setCell (by show w.heap.size ≤ w.heap.size + 1; omega) _).setCell (by show w.heap.size ≤ w.heap.size + 1 + 1; omega) _, ?_⟩
      · refine ownI_ext (ownI_ext hI.own (ext_set_at _ _ _ _) ?_) (ext_set_at _ _ _ _) ?_
        · intro g hg e; have := hv3 g hg; omega
        · intro g hg e; have := hv3 g hg; omega
      · have := (ext_set_at W (w.heap.size + 1) 0 v).size
        have := (ext_set_at (W.setCell ⟨w.heap.size + 1, 0, none⟩ v) (w.heap.size + 1 + 1) 0 (.int .i64 0)).size
        have := hI.size
        omega
    obtain ⟨A1, c1, rfl, _⟩ := ownI_form hI.own
    go_wp2_with fail
    have hX : Ext (fun b => b = w.heap.size + 1 ∨ b = w.heap.size + 1 + 1) W ((W.setCell ⟨w.heap.size + 1, 0, none⟩ (.slice A1 (whereG tv 0 l).length c1)).setCell ⟨w.heap.size + 1 + 1, 0, none⟩ (.int .i64 0)) :=
      ((ext_set_at _ _ _ _).mono fun _ h => .inl h).trans ((ext_set_at _ _ _ _).mono fun _ h => .inr h)
    have hD7 := (hX.block _ (Array.getElem?_eq_some_iff.1 hD).1 (by omega)).trans hD
    have hI8 := hI7.ext (Ext.putObj (O := fun b => b = wl.heap.size) (.deferred none) rfl) (fun b hb => by omega) (fun g hg e => hI7.ne_obj hD7 rfl g hg e)
    obtain ⟨A2, c2, he2, hR8⟩ := ownI_form hI8.own
    cases he2
    have f1 := hI8.b1.cell
    have f2 := hI8.b2.cell
    refine door_mark (v := .tuple #[.slice A1 (whereG tv 0 l).length c1, .int .i64 0]) hD7 ?_ ?_
    · simp [results, Try.results34, go_sem, f1, f2]
    · exact ⟨A1, c1, rfl, hR8, hI8.below⟩
  case hstop => exact fun _ _ _ _ h => h.elim
end Go.Proofs.Ytjdkdogiaokhjaa
