/- Runs: 'part'. -/
import Derived.Test.YtjdkdogiaokhjaaRe
import Derived.Laws.EntriesVeiled
import Derived.Shelf.Abstract
import Derived.Shelf.RegionOpen
namespace Go.Proofs.Ytjdkdogiaokhjaa
open Go.RowKit Go.Proofs
set_option linter.unusedSimpArgs false
set_option linter.unusedVariables false
attribute [local go_sem] Oper.semAt_some

theorem enters72 (args : Array Value) (w : World) : (callFunc 72 args).run Try.prog w = .ok (.enter 72 args) w := enters_of Try.func72 (by kernel_rfl) rfl args w
structure PI (l : List R) (fr to : Int) (n : Nat) (w : World) (k : Nat) (W : World) (v : Value) : Prop where
  js : JS W n (n + 1 + 1) v (norm (clips fr to 0 (l.take k)))
  b0 : Boxed W n 3 (.int .i64 fr)
  b1 : Boxed W (n + 1) 3 (.int .i64 to)
  b3 : Boxed W (n + 1 + 1 + 1) 97 (addF (n + 1 + 1))
  below : Below n w W
  size : n + 5 ≤ W.heap.size
theorem PI.ext {l : List R} {fr to : Int} {n : Nat} {w : World} {k : Nat} {W W' : World} {v : Value} {O : Nat → Prop} (h : PI l fr to n w k W v) (he : Ext O W W') (ho : ∀ b, O b → n + 4 ≤ b) (hv : ∀ b, touch (n + 1 + 1) v b → ¬ O b) : PI l fr to n w k W' v :=
  ⟨h.js.ext' he hv, boxed_ext h.b0 he (fun h => by have := ho _ h; omega), boxed_ext h.b1 he (fun h => by have := ho _ h; omega), boxed_ext h.b3 he (fun h => by have := ho _ h; omega), below_ext h.below he (by have := h.size; omega) (fun b hb => by have := ho b hb; omega), by have := he.size; have := h.size; omega⟩
set_option maxRecDepth 100000 in
set_option maxHeartbeats 1000000 in
theorem part_any (A : Option Addr) (l : List R) (c : Nat) (fr to : Int) (w : World) (hR : Rd w A l) (hn : l.length ≤ 1048576) (hm : Mild l) (hfr : 0 ≤ fr ∧ fr ≤ 8589934592) (hto : 0 ≤ to ∧ to ≤ 8589934592) :
    Calls Try.prog 53 #[.slice A l.length c, .int .i64 fr, .int .i64 to] w fun e w' => ∃ v, e = .returned v ∧ w'.ownsRow w.heap.size 53 2 v (partR l fr to).length (rv (partR l fr to)) ∧ Below w.heap.size w w' := by
  refine calls_of_wp_marks Try.func53 rfl ?_
  simp only [Try.ntmps53, List.size_toArray, List.length_cons, List.length_nil, Nat.reduceAdd, Nat.reduceSub, Array.replicate_succ, Array.replicate_zero, List.push_toArray, List.append_toArray, List.nil_append, List.cons_append]
  have HJ := Lib.hid (fun w => joiner_any w)
  have HS := Lib.hid (fun w => starts_any A l.length c w)
  go_wp2_with (first | (go_at_call 67; (with_reducible refine (HJ.out _).mono ?_); rintro e w1 ⟨rfl, rfl⟩) | (go_at_call 65; (with_reducible refine (HS.out _).mono ?_); rintro e w1 ⟨rfl, rfl⟩))
  clear HJ HS
  obtain ⟨wl, hwl⟩ : ∃ wl, ((((w.alloc (.cells #[.int .i64 fr] 3)).alloc (.cells #[.int .i64 to] 3)).alloc (.cells #[.slice none 0 0] 22)).alloc (.cells #[addF (w.heap.size + 1 + 1)] 97)).alloc (.cells #[.slice A l.length c] 22) = wl := ⟨_, rfl⟩
  have hsz : wl.heap.size = w.heap.size + 5 := by rw [← hwl]; simp
  have hb0 : Below w.heap.size w wl := by
    rw [← hwl]
    exact (((((Below.refl _ w).alloc (Nat.le_refl _) _).alloc (by simp) _).alloc (by simp; omega) _).alloc (by simp; omega) _).alloc (by simp; omega) _
  have hc0 : Boxed wl w.heap.size 3 (.int .i64 fr) := by rw [← hwl]; exact ((((Boxed.new w _ _).alloc _).alloc _).alloc _).alloc _
  have hc1 : Boxed wl (w.heap.size + 1) 3 (.int .i64 to) := by
    rw [← hwl]
    have := Boxed.new (w.alloc (.cells #[.int .i64 fr] 3)) 3 (.int .i64 to)
    rw [World.size_alloc] at this
    exact ((this.alloc _).alloc _).alloc _
  have hc3 : Boxed wl (w.heap.size + 1 + 1 + 1) 97 (addF (w.heap.size + 1 + 1)) := by
    rw [← hwl]
    have := Boxed.new (((w.alloc (.cells #[.int .i64 fr] 3)).alloc (.cells #[.int .i64 to] 3)).alloc (.cells #[.slice none 0 0] 22)) 97 (addF (w.heap.size + 1 + 1))
    rw [World.size_alloc, World.size_alloc, World.size_alloc] at this
    exact this.alloc _
  have hc4 : wl.cell? ⟨w.heap.size + 1 + 1 + 1 + 1, 0, none⟩ = some (.slice A l.length c) := by rw [← hwl]; simp [go_sem]
  have hJ0 : JS wl w.heap.size (w.heap.size + 1 + 1) (.slice none 0 0) [] := by
    have h1 := JS.new' ((w.alloc (.cells #[.int .i64 fr] 3)).alloc (.cells #[.int .i64 to] 3)) w.heap.size (by rw [World.size_alloc, World.size_alloc]; omega)
    rw [World.size_alloc, World.size_alloc] at h1
    rw [← hwl]
    exact (h1.below ((Below.refl _ _).alloc (Nat.le_refl _) _)).below ((Below.refl _ _).alloc (Nat.le_refl _) _)
  have hG := starts_gives (w.heap.size + 1 + 1 + 1 + 1) A l c wl hc4 (hR.below hb0) hn hm.fine.small
  rw [hwl]
  have hE1 : Ext (fun _ => False) wl wl := Ext.refl _ _
  refine wp_rangeFunc_gives (gf := 72) (lb := #[.pointer (some ⟨w.heap.size + 1 + 1 + 1 + 1, 0, none⟩)]) rfl enters72 hG ?hps (fun b hb => hb.elim) ?hK
    (I := fun k W => ∃ v, PI l fr to w.heap.size w k W v)
    (Ix := fun _ _ _ => False) ?hI ?hIl ?hIx ?hIxl ?h0
    (Asg := fun k W1 a₁ W2 => W2 = W1.alloc (.cells #[.int .i64 (l.getD k (0, 0)).1, .int .i64 (l.getD k (0, 0)).2] 53) ∧ a₁ = { tmps := #[.slice A l.length c, .int .i64 fr, .int .i64 to, undef, .pointer (some ⟨w.heap.size, 0, none⟩), .pointer (some ⟨w.heap.size + 1, 0, none⟩), .slice none 0 0, .pointer (some ⟨w.heap.size + 1 + 1 + 1, 0, none⟩), allF (w.heap.size + 1 + 1), .int .i64 (sumR (l.take k)), .pointer (some ⟨W1.heap.size, 0, none⟩), undef, undef, .tuple #[addF (w.heap.size + 1 + 1), allF (w.heap.size + 1 + 1)], .tuple #[addF (w.heap.size + 1 + 1), allF (w.heap.size + 1 + 1)], addF (w.heap.size + 1 + 1), allF (w.heap.size + 1 + 1), .slice A l.length c, .func (.func 72) #[] #[.pointer (some ⟨w.heap.size + 1 + 1 + 1 + 1, 0, none⟩)], .int .i64 (sumR (l.take k)), .agg #[.int .i64 (l.getD k (0, 0)).1, .int .i64 (l.getD k (0, 0)).2], undef, undef, undef, undef, undef, undef, undef, undef, undef, undef, undef, undef, undef, undef, undef, undef, undef, undef, undef, undef, undef, undef, undef, undef, undef, undef, undef, undef, undef, undef, undef], defers := [] })
    ?hassign ?hbody ?hdone ?hstop
  case hps => intro k; rfl
  case hK => intro b hb; have := hR.blk_lt b hb; omega
  case hI => rintro k W1 W2 ⟨v, h⟩ he; exact ⟨v, h.ext he (fun b hb => hb.elim) (fun b _ hb => hb.elim)⟩
  case hIl =>
    rintro k W1 o o' ⟨v, h⟩ hl
    exact ⟨v, h.ext (Ext.putObj (O := fun b => b = wl.heap.size + 1) _ rfl) (fun b hb => by omega) (fun b hb e => h.js.ne_obj hl rfl (e ▸ hb))⟩
  case hIx => exact fun _ _ _ _ h _ => h
  case hIxl => exact fun _ _ _ _ _ h _ => h
  case h0 => exact ⟨_, by simpa [clips, norm, addAll] using hJ0, hc0, hc1, hc3, hb0, by omega⟩
  case hassign =>
    intro k W1 Kc hK
    simp only [startArgs]
    gi_wp2
    exact hK _ _ ((Ext.refl _ _).alloc _) ⟨rfl, rfl⟩
  case hbody =>
    rintro k W0 W1 a₁ W2 W3 hk ⟨v, hI⟩ ⟨⟨o, hlo⟩, hdo⟩ he ⟨rfl, rfl⟩ hcells hs3 h01 h0s
    obtain ⟨r, hr⟩ : ∃ r, l.getD k (0, 0) = r := ⟨_, rfl⟩
    rw [hr] at hcells hs3 ⊢
    have hv : ∀ b, touch (w.heap.size + 1 + 1) v b → ¬ (False ∨ b = wl.heap.size + 1) := fun b hb e => by
      rcases e with e | e
      · exact e
      · exact hI.js.ne_obj hlo rfl (e ▸ hb)
    have hI3 : PI l fr to w.heap.size w k W3 v := hI.ext he (fun b hb => by rcases hb with h | h; exact h.elim; omega) hv
    have htl := touch_lt hI.js
    have hlt3 : W1.heap.size ≠ wl.heap.size + 1 := by omega
    have c0 : W3.cell? ⟨W1.heap.size, 0, none⟩ = some (.int .i64 r.1) := by rw [(hcells ⟨W1.heap.size, 0, none⟩ hlt3).1]; simp [go_sem]
    have c1 : W3.cell? ⟨W1.heap.size, 1, none⟩ = some (.int .i64 r.2) := by rw [(hcells ⟨W1.heap.size, 1, none⟩ hlt3).1]; simp [go_sem]
    have z0 : ∀ o', W3.frozen? ⟨W1.heap.size, o', none⟩ = false := fun o' => by rw [(hcells ⟨W1.heap.size, o', none⟩ hlt3).2]; simp [go_sem]
    have z1 := z0 0
    have z2 := z0 1
    clear z0
    have b0 := hI3.b0.cell
    have b1 := hI3.b1.cell
    have b3 := hI3.b3.cell
    have hS3 := hI3.size
    rw [World.size_alloc] at hs3
    have hmix : Try.prog.follows .mixedOrders = true := by kernel_rfl
    gi_wp2_with fail
    have hnD : ¬ touch (w.heap.size + 1 + 1) v wl.heap.size := hI.js.ne_obj hdo rfl
    have hnL : ¬ touch (w.heap.size + 1 + 1) v (wl.heap.size + 1) := hI.js.ne_obj hlo rfl
    have htg := touch_ge hI.js
    have hEx : ∀ w4, Ext (fun b => b = W1.heap.size) W3 w4 → PI l fr to w.heap.size w k w4 v := fun w4 h4 => PI.ext hI3 h4 (fun b hb => by omega) (fun b hb e => by have := htl b hb; omega)
    have hkl : l.getD k (0, 0) = l[k] := by simp [List.getD_eq_getElem?_getD, List.getElem?_eq_getElem hk]
    have hrk : l[k] = r := hkl.symm.trans hr
    have hel := hm.1 l[k] (List.getElem_mem hk)
    have hmk := Mild.take hm k
    have hsk := sumR_nonneg (l := l.take k) (fun r hr => (hmk.1 r hr).2.2)
    have hsk2 := hmk.2
    have hek := sumR_mem (fun r hr => (hm.1 r hr).2.2) l[k] (List.getElem_mem hk)
    have hms := hm.2
    have hct0 := clips_take_succ fr to l k hk
    rw [hrk] at hel hek hct0
    have hct := Lib.hid hct0
    clear hct0
    have hfin : ∀ w4 W5 v', Ext (fun b => b = W1.heap.size) W3 w4 → Ext (touch (w.heap.size + 1 + 1) v) w4 W5 → JS W5 w.heap.size (w.heap.size + 1 + 1) v' (norm (clips fr to 0 (l.take (k + 1)))) →
        (∀ b, b = wl.heap.size ∨ b = wl.heap.size + 1 → W5.heap[b]? = W3.heap[b]?) ∧ (∃ v, PI l fr to w.heap.size w (k + 1) W5 v) ∧ W1.heap.size ≤ W5.heap.size ∧ ∀ b, b < W1.heap.size → (blockOf A l b ∨ W0.heap.size ≤ b) → W5.heap[b]? = W3.heap[b]? := by
      intro w4 W5 v' h4 h5 hJ5
      have hP4 := hEx w4 h4
      refine ⟨fun b hb => ?_, ⟨v', ?_⟩, by have := h4.size; have := h5.size; omega, fun b hb hc => ?_⟩
      · have hb3 : b < W3.heap.size := by omega
        refine (h5.block b (by have := h4.size; omega) ?_).trans (h4.block b hb3 (by omega))
        rcases hb with rfl | rfl
        · exact hnD
        · exact hnL
      · exact ⟨hJ5, boxed_ext hP4.b0 h5 (hP4.js.box_ne hP4.b0 (by decide) (by omega)), boxed_ext hP4.b1 h5 (hP4.js.box_ne hP4.b1 (by decide) (by omega)), boxed_ext hP4.b3 h5 (hP4.js.box_ne hP4.b3 (by decide) (by omega)), below_ext hP4.below h5 (by have := hP4.size; omega) htg, by have := h5.size; have := hP4.size; omega⟩
      · refine (h5.block b (by have := h4.size; omega) fun ht => ?_).trans (h4.block b (by omega) (by omega))
        rcases hc with hc | hc
        · have := htg _ ht
          have := hR.blk_lt _ hc
          omega
        · have := htl b ht
          omega
    have HF := Lib.hid hfin
    have HX := Lib.hid hEx
    clear hlo hdo he hcells htl hv hI hc0 hc1 hc3 hc4 hwl hJ0 hG hR hs3 h01 h0s hI3 hfin hEx hnD hnL htg
    clear hkl hrk hr
    obtain ⟨rt, rm⟩ := r
    simp only at c0 c1 hel hek ⊢
    gi_wp2_with fail
    (refine wpIn_region_quiet_round (by kernel_rfl) (by kernel_rfl) (by kernel_rfl) ?_; (repeat (go_big_quiet_step (fail))); refine wpQuiet_nil ?_; intro _ hw'; obtain ⟨nq, hw''⟩ := hw'; subst hw'')
    have hS : (if fr < sumR (l.take k) then sumR (l.take k) else fr) = max fr (sumR (l.take k)) := by split <;> omega
    have hT : (if sumR (l.take k) + rm < to then sumR (l.take k) + rm else to) = min to (sumR (l.take k) + rm) := by split <;> omega
    rw [hS, hT]
    clear hS hT
    have hW4 : Ext (fun b => b = W1.heap.size) W3 (W3.drewN nq) := ⟨rfl, rfl, rfl, Nat.le_refl _, fun _ _ _ => rfl⟩
    obtain ⟨a, ha⟩ : ∃ a, a = max fr (sumR (l.take k)) := ⟨_, rfl⟩
    obtain ⟨b, hb⟩ : ∃ b, b = min to (sumR (l.take k) + rm) := ⟨_, rfl⟩
    rw [← ha, ← hb]
    have hb1 : a ≤ 8589934592 ∧ 0 ≤ a := by omega
    have hb2 : b ≤ 17179869184 ∧ 0 ≤ b := by omega
    have hab : a - sumR (l.take k) < rm ∨ b ≤ a := by omega
    have hab0 : 0 ≤ a - sumR (l.take k) := by omega
    have HA := Lib.hid ha
    have HB := Lib.hid hb
    clear ha hb
    by_cases hba : b ≤ a
    · have hcl : clip1 fr to (sumR (l.take k)) (rt, rm) = [] := by unfold clip1; simp only; rw [← HA.out, ← HB.out, if_pos hba]
      gi_wp2
      exact HF.out _ _ v hW4 (Ext.refl _ _) (by rw [hct.out, hcl, List.append_nil]; exact (HX.out _ hW4).js)
    · have hcl : clip1 fr to (sumR (l.take k)) (rt, rm) = [(if rt = -1 then rt else rt + (a - sumR (l.take k)), b - a)] := by unfold clip1; simp only; rw [← HA.out, ← HB.out, if_neg hba]
      have HCL := Lib.hid hcl
      clear hcl
      have hFN := hm.norm_clips fr to 0 hn
      have hFT : Fine (norm (clips fr to 0 (l.take k))) ∧ (norm (clips fr to 0 (l.take k))).length ≤ 1048576 := hmk.norm_clips fr to 0 (by have := List.length_take_le k l; omega)
      clear hFN
      have HSN := Lib.hid (addAll_snoc (clips fr to 0 (l.take k)) (if rt = -1 then rt else rt + (a - sumR (l.take k)), b - a) [])
      have hbase : w.heap.size ≤ W3.heap.size := by omega
      by_cases ht : rt = -1
      · subst ht
        have h4 : Ext (fun b => b = W1.heap.size) W3 ((W3.drewN nq).setCell ⟨W1.heap.size, 1, none⟩ (.int .i64 (b - a))) := hW4.trans (ext_set_at _ _ _ _)
        have b3' := (HX.out _ h4).b3.cell
        have hadd := add_any w.heap.size (w.heap.size + 1 + 1) v _ (-1, b - a) _ (HX.out _ h4).js (by have := h4.size; omega) hFT.2 hFT.1 (by simp only; omega) (by simp only; omega)
        have HADD := Lib.hid hadd
        clear hadd
        gi_wp2_with (first | (refine ⟨trivial, rfl, ?_⟩; gi_at_call 77; refine (CallsIn.inRound _ (callsIn_wide.2 HADD.out)).mono ?_; rintro e w5 ⟨rfl, v5, hJ5, hE5⟩))
        gi_wp2
        exact HF.out _ _ v5 h4 hE5 (by rw [hct.out, HCL.out, norm, HSN.out, if_pos True.intro]; exact hJ5)
      · have h4 : Ext (fun b => b = W1.heap.size) W3 (((W3.drewN nq).setCell ⟨W1.heap.size, 0, none⟩ (.int .i64 (rt + (a - sumR (l.take k))))).setCell ⟨W1.heap.size, 1, none⟩ (.int .i64 (b - a))) := (hW4.trans (ext_set_at _ _ _ _)).trans (ext_set_at _ _ _ _)
        have b3' := (HX.out _ h4).b3.cell
        have hadd := add_any w.heap.size (w.heap.size + 1 + 1) v _ (rt + (a - sumR (l.take k)), b - a) _ (HX.out _ h4).js (by have := h4.size; omega) hFT.2 hFT.1 (by simp only; omega) (by simp only; omega)
        have HADD := Lib.hid hadd
        have hdt : ((rt : Int) != -1) = true := by simpa using ht
        clear hadd
        gi_wp2_with (first | (refine ⟨trivial, rfl, ?_⟩; gi_at_call 77; refine (CallsIn.inRound _ (callsIn_wide.2 HADD.out)).mono ?_; rintro e w5 ⟨rfl, v5, hJ5, hE5⟩))
        gi_wp2
        exact HF.out _ _ v5 h4 hE5 (by rw [hct.out, HCL.out, norm, HSN.out, if_neg ht]; exact hJ5)
  case hdone =>
    rintro W ⟨v, hI⟩ hD
    rw [hsz] at hD
    have hJ := hI.js
    rw [List.take_length] at hJ
    have hA := all_any w.heap.size (w.heap.size + 1 + 1) v _ W hJ
    have HA := Lib.hid hA
    have hown := hJ.2.2
    have hbw := hI.below
    obtain ⟨A1, c1, rfl, _⟩ := own_form hown
    clear hJ hA hI hc0 hc1 hc3 hc4 hwl hJ0 hG
    go_wp2_with (go_at_call 78; (with_reducible refine HA.out.mono ?_); rintro e w5 ⟨rfl, rfl⟩)
    refine ⟨by simp, .inl ⟨_, _, rfl, run_takeDeferred hD, ?_⟩⟩
    exact ⟨_, results_tmp rfl _ _ _, _, rfl, ownsRow_putObj hown _ hD rfl, below_ext hbw (Ext.putObj (O := fun b => b = w.heap.size + 5) _ rfl) (by have := (Array.getElem?_eq_some_iff.1 hD).1; omega) (fun b hb => by omega)⟩
  case hstop => exact fun _ _ _ _ h => h.elim
end Go.Proofs.Ytjdkdogiaokhjaa
